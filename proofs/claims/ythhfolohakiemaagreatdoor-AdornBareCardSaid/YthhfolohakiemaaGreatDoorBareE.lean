/- What the functions of the package adorn answer is proved for every input. -/
import Derived.Test.YthhfolohakiemaaGreatDoorBareD
set_option linter.unusedVariables false
set_option linter.unnecessarySimpa false
set_option linter.unusedSimpArgs false
namespace Go.Ped
open Go.RowKit Go.Proofs
section
variable (L:List Ad) (rn:List ByteArray) (rv:List AV) (out:List Ru) (p q nm:ByteArray) (hd:List Ar) (bd:List Li) (i n:Nat)
abbrev Z2i0:Nat×AV:=(0,.elt 100000 0 0)
abbrev Z2i1:Nat×Ob:=(100000,.var [.own 2 (L.map adA),.map 100001,.tmap (rn.map AV.str) rv,.own 3 (out.map Ru.av)])
abbrev Z2i2:Nat×Ob:=(100001,.map (L.map adA) (ixs L.length))
abbrev Z2i3:Nat×AV:=(3,.tptr [.str p,.str q])
theorem g48a:EN 50 (partC 0 (bodyOf Tryz.f48)) ⟨[Z2i0,(1,.agg [.str p,.str q])],[Z2i1 L rn rv out,Z2i2 L]⟩ ⟨[Z2i0,Z2i3 p q],[Z2i1 L rn rv out,Z2i2 L]⟩:=by
 exact gE ⟨rfl,rfl⟩ 0 [] [0,3] [K0 100000,K1 100001,(3,.freeze)] (aC2 (zshd3q L) rT)
abbrev Z2i4:Nat×AV:=(4,.elt 4 0 0)
abbrev Z2i5:Nat×Ob:=(4,.var [.str nm,.nils,.nils])
theorem g48b (k14:Sp 14 [.agg [.str p,.str q]] [] (.str nm) []):EN 50 (partC 1 (bodyOf Tryz.f48)) ⟨[Z2i0,Z2i3 p q],[Z2i1 L rn rv out,Z2i2 L]⟩ ⟨[Z2i0,Z2i3 p q,Z2i4],[Z2i1 L rn rv out,Z2i2 L,Z2i5 nm]⟩:=by
 have hs0:=k14
 exact gE ⟨rfl,rfl⟩ 0 [.call (.str nm) [] []] [0,3,4] [K0 100000,K1 100001,K1 4] (aC3 hs0 (zshd3q L) rT)
abbrev Z2i8:St:=⟨[Z2i0,Z2i3 p q,Z2i4,(5,.nils)],[Z2i1 L rn rv out,Z2i2 L,Z2i5 nm]⟩
theorem g48c:EN 50 (partC 2 (bodyOf Tryz.f48)) ⟨[Z2i0,Z2i3 p q,Z2i4],[Z2i1 L rn rv out,Z2i2 L,Z2i5 nm]⟩ (Z2i8 L rn rv out p q nm):=by
 exact gE ⟨rfl,rfl⟩ 0 [] [0,3,4,5] [K0 100000,K1 100001,K1 4] (aC2 (zshd3q L) rT)
theorem t48z (hi:i<q.size) (hq:q.size≤24) (s:ByteArray) (hs:s.size<1000) (k86:Sp 86 [.int .i64 (i:Int)] [] (.str s) []):EN 50 (loopOf Tryz.f48 0) ⟨[(0,.elt 100000 0 0),(3,.tptr [.str p,.str q]),(4,.elt 4 0 0),(5,.nils),(13,.int .i64 ((q.size:Nat):Int)),(14,.int .i64 (i:Int))],[(100000,.var [.own 2 (L.map adA),.map 100001,.tmap (rn.map AV.str) rv,.own 3 (out.map Ru.av)]),(100001,.map (L.map adA) (ixs L.length)),(4,.var [.str nm,.nils,.nils])]⟩ ⟨[(0,.elt 100000 0 0),(3,.tptr [.str p,.str q]),(4,.elt 4 0 0),(5,.row 131 0 1),(13,.int .i64 ((q.size:Nat):Int)),(14,.int .i64 ((i+1:Nat):Int))],[(100000,.var [.own 2 (L.map adA),.map 100001,.tmap (rn.map AV.str) rv,.own 3 (out.map Ru.av)]),(100001,.map (L.map adA) (ixs L.length)),(4,.var [.str nm,.row 126 0 1,.nils]),(126,.row 5 [.agg [.int .i8 0,.str (ByteArray.mk #[86]++s),.int .i8 0,.int .i64 0,.str ⟨#[]⟩]]),(131,.row 4 [.agg [.str (ByteArray.mk #[86]++s),.int .i8 0,.int .i64 0,.str ⟨#[]⟩]])]⟩:=by
 have hs0:=k86
 exact gE ⟨rfl,rfl⟩ 0 [.is true,.call (.str s) [] [],.is true,.is true] [0,3,4,5,13,14] [K0 100000,K1 100001,K0 4,(26,.keep 126 true),(31,.keep 131 true)] (aC9 (show decide ((i:Int)<(↑(ByteArray.size q):Int))=true from decide_eq_true (by omega)) hs0 (show 1+ByteArray.size s≤9223372036854775807 from by omega) (show 1≤List.length [AV.agg [AV.int .i8 0,AV.str (ByteArray.mk #[86]++s),AV.int .i8 0,AV.int .i64 0,AV.str (ByteArray.mk #[])]]∧[AV.agg [AV.int .i8 0,AV.str (ByteArray.mk #[86]++s),AV.int .i8 0,AV.int .i64 0,AV.str (ByteArray.mk #[])]]≠[]∧(∀(e:AV),e∈[AV.agg [AV.int .i8 0,AV.str (ByteArray.mk #[86]++s),AV.int .i8 0,AV.int .i64 0,AV.str (ByteArray.mk #[])]]→okE 5 e)∧(∀(e:AV),e∈[]→okE 5 e)∧(↑(0+List.length [AV.agg [AV.int .i8 0,AV.str (ByteArray.mk #[86]++s),AV.int .i8 0,AV.int .i64 0,AV.str (ByteArray.mk #[])]]):Int)*56≤140737488355328∧0+List.length [AV.agg [AV.int .i8 0,AV.str (ByteArray.mk #[86]++s),AV.int .i8 0,AV.int .i64 0,AV.str (ByteArray.mk #[])]]≤9223372036854775807 from by simp) (show 1≤List.length [AV.agg [AV.str (ByteArray.mk #[86]++s),AV.int .i8 0,AV.int .i64 0,AV.str (ByteArray.mk #[])]]∧[AV.agg [AV.str (ByteArray.mk #[86]++s),AV.int .i8 0,AV.int .i64 0,AV.str (ByteArray.mk #[])]]≠[]∧(∀(e:AV),e∈[AV.agg [AV.str (ByteArray.mk #[86]++s),AV.int .i8 0,AV.int .i64 0,AV.str (ByteArray.mk #[])]]→okE 4 e)∧(∀(e:AV),e∈[]→okE 4 e)∧(↑(0+List.length [AV.agg [AV.str (ByteArray.mk #[86]++s),AV.int .i8 0,AV.int .i64 0,AV.str (ByteArray.mk #[])]]):Int)*48≤140737488355328∧0+List.length [AV.agg [AV.str (ByteArray.mk #[86]++s),AV.int .i8 0,AV.int .i64 0,AV.str (ByteArray.mk #[])]]≤9223372036854775807 from by simp) (w1 i (by omega)) (zshd3q L) rT rT)
theorem t48s (hi:i<q.size) (hq:q.size≤24) (s:ByteArray) (hs:s.size<1000) (k86:Sp 86 [.int .i64 (i:Int)] [] (.str s) []) (hs':List Ar) (ts:List Tm) (hl1:hs'.length<1000) (hl2:ts.length<1000) (ho1:∀e,e∈hs'.map Ar.av→okE 5 e) (ho2:∀e,e∈ts.map Tm.av→okE 4 e):EN 50 (loopOf Tryz.f48 0) ⟨[(0,.elt 100000 0 0),(3,.tptr [.str p,.str q]),(4,.elt 4 0 0),(5,.row 131 0 (ts.map Tm.av).length),(13,.int .i64 ((q.size:Nat):Int)),(14,.int .i64 (i:Int))],[(100000,.var [.own 2 (L.map adA),.map 100001,.tmap (rn.map AV.str) rv,.own 3 (out.map Ru.av)]),(100001,.map (L.map adA) (ixs L.length)),(4,.var [.str nm,.row 126 0 (hs'.map Ar.av).length,.nils]),(126,.row 5 (hs'.map Ar.av)),(131,.row 4 (ts.map Tm.av))]⟩ ⟨[(0,.elt 100000 0 0),(3,.tptr [.str p,.str q]),(4,.elt 4 0 0),(5,.row 131 0 ((ts.map Tm.av).length+1)),(13,.int .i64 ((q.size:Nat):Int)),(14,.int .i64 ((i+1:Nat):Int))],[(100000,.var [.own 2 (L.map adA),.map 100001,.tmap (rn.map AV.str) rv,.own 3 (out.map Ru.av)]),(100001,.map (L.map adA) (ixs L.length)),(4,.var [.str nm,.row 126 0 ((hs'.map Ar.av).length+1),.nils]),(126,.row 5 (hs'.map Ar.av++[.agg [.int .i8 0,.str (ByteArray.mk #[86]++s),.int .i8 0,.int .i64 0,.str ⟨#[]⟩]])),(131,.row 4 (ts.map Tm.av++[.agg [.str (ByteArray.mk #[86]++s),.int .i8 0,.int .i64 0,.str ⟨#[]⟩]]))]⟩:=by
 have hs0:=k86
 exact gE ⟨rfl,rfl⟩ 0 [.is true,.call (.str s) [] [],.is true,.is true] [0,3,4,5,13,14] [K0 100000,K1 100001,K0 4,(26,.keep 126 true),(31,.keep 131 true)] (aC9 (show decide ((i:Int)<(↑(ByteArray.size q):Int))=true from decide_eq_true (by omega)) hs0 (show 1+ByteArray.size s≤9223372036854775807 from by omega) (show (1:Nat)≤List.length [AV.agg [AV.int .i8 (0:Int),AV.str (ByteArray.mk #[(86:UInt8)]++s),AV.int .i8 (0:Int),AV.int .i64 (0:Int),AV.str (ByteArray.mk #[])]]∧(0:Nat)=(0:Nat)∧List.length (List.map Ar.av hs')=List.length (List.map Ar.av hs')∧(∀(e:AV),e∈[AV.agg [AV.int .i8 (0:Int),AV.str (ByteArray.mk #[(86:UInt8)]++s),AV.int .i8 (0:Int),AV.int .i64 (0:Int),AV.str (ByteArray.mk #[])]]→okE (5:Nat) e)∧(∀(e:AV),e∈List.map Ar.av hs'→okE (5:Nat) e)∧(↑(List.length (List.map Ar.av hs')+List.length [AV.agg [AV.int .i8 (0:Int),AV.str (ByteArray.mk #[(86:UInt8)]++s),AV.int .i8 (0:Int),AV.int .i64 (0:Int),AV.str (ByteArray.mk #[])]]):Int)*(56:Int)≤(140737488355328:Int)∧List.length (List.map Ar.av hs')+List.length [AV.agg [AV.int .i8 (0:Int),AV.str (ByteArray.mk #[(86:UInt8)]++s),AV.int .i8 (0:Int),AV.int .i64 (0:Int),AV.str (ByteArray.mk #[])]]≤(9223372036854775807:Nat) from by simp;omega) (show (1:Nat)≤List.length [AV.agg [AV.str (ByteArray.mk #[(86:UInt8)]++s),AV.int .i8 (0:Int),AV.int .i64 (0:Int),AV.str (ByteArray.mk #[])]]∧(0:Nat)=(0:Nat)∧List.length (ts.map Tm.av)=List.length (ts.map Tm.av)∧(∀(e:AV),e∈[AV.agg [AV.str (ByteArray.mk #[(86:UInt8)]++s),AV.int .i8 (0:Int),AV.int .i64 (0:Int),AV.str (ByteArray.mk #[])]]→okE (4:Nat) e)∧(∀(e:AV),e∈List.map Tm.av ts→okE (4:Nat) e)∧(↑(List.length (ts.map Tm.av)+List.length [AV.agg [AV.str (ByteArray.mk #[(86:UInt8)]++s),AV.int .i8 (0:Int),AV.int .i64 (0:Int),AV.str (ByteArray.mk #[])]]):Int)*(48:Int)≤(140737488355328:Int)∧List.length (ts.map Tm.av)+List.length [AV.agg [AV.str (ByteArray.mk #[(86:UInt8)]++s),AV.int .i8 (0:Int),AV.int .i64 (0:Int),AV.str (ByteArray.mk #[])]]≤(9223372036854775807:Nat) from by simp;omega) (w1 i (by omega)) (zshd3q L) (show noIdsL (List.map Ar.av hs'++[AV.agg [AV.int .i8 0,AV.str (ByteArray.mk #[86]++s),AV.int .i8 0,AV.int .i64 0,AV.str (ByteArray.mk #[])]])=true from by simp) (show noIdsL (List.map Tm.av ts++[AV.agg [AV.str (ByteArray.mk #[86]++s),AV.int .i8 0,AV.int .i64 0,AV.str (ByteArray.mk #[])]])=true from by simp))
theorem e48z:En 50 (loopOf Tryz.f48 0) ⟨[(0,.elt 100000 0 0),(3,.tptr [.str p,.str q]),(4,.elt 4 0 0),(5,.nils),(13,.int .i64 ((q.size:Nat):Int)),(14,.int .i64 ((q.size:Nat):Int))],[(100000,.var [.own 2 (L.map adA),.map 100001,.tmap (rn.map AV.str) rv,.own 3 (out.map Ru.av)]),(100001,.map (L.map adA) (ixs L.length)),(4,.var [.str nm,.nils,.nils])]⟩ (fun e t=>e= .exit 0∧t=⟨[(0,.elt 100000 0 0),(3,.tptr [.str p,.str q]),(4,.elt 4 0 0),(5,.nils)],[(100000,.var [.own 2 (L.map adA),.map 100001,.tmap (rn.map AV.str) rv,.own 3 (out.map Ru.av)]),(100001,.map (L.map adA) (ixs L.length)),(4,.var [.str nm,.nils,.nils])]⟩):=by
 exact gE ⟨rfl,rfl⟩ 0 [.is false] [0,3,4,5] [K0 100000,K1 100001,K1 4] (aC3 (show decide ((↑(ByteArray.size q):Int)<(↑(ByteArray.size q):Int))=false from decide_eq_false (by omega)) (zshd3q L) rT)
theorem zsctum (ts:List Tm):noIdsL (ts.map Tm.av)=true:=by simp
theorem e48s (hs:List Ar) (ts:List Tm):En 50 (loopOf Tryz.f48 0) ⟨[(0,.elt 100000 0 0),(3,.tptr [.str p,.str q]),(4,.elt 4 0 0),(5,.row 131 0 (ts.map Tm.av).length),(13,.int .i64 ((q.size:Nat):Int)),(14,.int .i64 ((q.size:Nat):Int))],[(100000,.var [.own 2 (L.map adA),.map 100001,.tmap (rn.map AV.str) rv,.own 3 (out.map Ru.av)]),(100001,.map (L.map adA) (ixs L.length)),(4,.var [.str nm,.row 126 0 (hs.map Ar.av).length,.nils]),(126,.row 5 (hs.map Ar.av)),(131,.row 4 (ts.map Tm.av))]⟩ (fun e t=>e= .exit 0∧t=⟨[(0,.elt 100000 0 0),(3,.tptr [.str p,.str q]),(4,.elt 4 0 0),(5,.row 131 0 (ts.map Tm.av).length)],[(100000,.var [.own 2 (L.map adA),.map 100001,.tmap (rn.map AV.str) rv,.own 3 (out.map Ru.av)]),(100001,.map (L.map adA) (ixs L.length)),(4,.var [.str nm,.row 126 0 (hs.map Ar.av).length,.nils]),(126,.row 5 (hs.map Ar.av)),(131,.row 4 (ts.map Tm.av))]⟩):=by
 exact gE ⟨rfl,rfl⟩ 0 [.is false] [0,3,4,5] [K0 100000,K1 100001,K0 4,K1 126,K1 131] (aC4 (show decide ((↑(ByteArray.size q):Int)<(↑(ByteArray.size q):Int))=false from decide_eq_false (by omega)) (zshd3q L) (show noIdsL (hs.map Ar.av)=true from by simp) (zsctum ts))
theorem g48d (hs:List Ar) (ts:List Tm):EN 50 (partC 4 (bodyOf Tryz.f48)) ⟨[Z2i0,Z2i3 p q,Z2i4,(5,.seq (ts.map Tm.av) false)],[Z2i1 L rn rv out,Z2i2 L,(4,.var [.str nm,.seq (hs.map Ar.av) false,.nils])]⟩ ⟨[Z2i0,Z2i4],[Z2i1 L rn rv out,Z2i2 L,(4,.var [.str nm,.seq (hs.map Ar.av) false,.seq [.agg [.int .i8 1,.str p,.seq (ts.map Tm.av) false,.int .i8 0,.int .i8 0,.str ⟨#[]⟩,.int .i8 0,.int .i64 0,.str ⟨#[]⟩,.nils,.int .i8 0,.str ⟨#[]⟩,.int .i8 0,.int .i64 0,.str ⟨#[]⟩,.nils]] false])]⟩:=by
 exact gE ⟨rfl,rfl⟩ 0 [] [0,4] [K0 100000,K1 100001,K0 4,(38,.freeze)] (aC3 (zshd3q L) (show 1=List.length [AV.agg [AV.int .i8 1,AV.str p,AV.seq (ts.map Tm.av) false,AV.int .i8 0,AV.int .i8 0,AV.str (ByteArray.mk #[]),AV.int .i8 0,AV.int .i64 0,AV.str (ByteArray.mk #[]),AV.nils,AV.int .i8 0,AV.str (ByteArray.mk #[]),AV.int .i8 0,AV.int .i64 0,AV.str (ByteArray.mk #[]),AV.nils]] from by rfl) rT)
abbrev Z2i6:Nat×Ob:=(4,.var [.str nm,.seq (hd.map Ar.av) false,.seq (bd.map Li.av) false])
theorem r11n:EN 50 (restC 5 (bodyOf Tryz.f48)) ⟨[Z2i0,Z2i4],[(100000,.var [.own 2 (L.map adA),.map 100001,.tmap (rn.map AV.str) rv,.nils]),Z2i2 L,Z2i6 nm hd bd]⟩ ⟨[],[(100000,.var [.own 2 (L.map adA),.map 100001,.tmap (rn.map AV.str) rv,.row 60047 0 1]),Z2i2 L,(60047,.row 3 [.agg [.str nm,.seq (hd.map Ar.av) false,.seq (bd.map Li.av) false]])]⟩:=by
 exact gE ⟨rfl,rfl⟩ 60000 [.is true] [] [K0 100000,K1 100001,K1 60047] (aC3 (show 1≤List.length [AV.agg [AV.str nm,AV.seq (hd.map Ar.av) false,AV.seq (bd.map Li.av) false]]∧[AV.agg [AV.str nm,AV.seq (hd.map Ar.av) false,AV.seq (bd.map Li.av) false]]≠[]∧(∀(e:AV),e∈[AV.agg [AV.str nm,AV.seq (hd.map Ar.av) false,AV.seq (bd.map Li.av) false]]→okE 3 e)∧(∀(e:AV),e∈[]→okE 3 e)∧(↑(0+List.length [AV.agg [AV.str nm,AV.seq (hd.map Ar.av) false,AV.seq (bd.map Li.av) false]]):Int)*64≤140737488355328∧0+List.length [AV.agg [AV.str nm,AV.seq (hd.map Ar.av) false,AV.seq (bd.map Li.av) false]]≤9223372036854775807 from by simp) (zshd3q L) rT)
theorem r11r (hok:∀e,e∈out.map Ru.av→okE 3 e) (hl:out.length<1000000000):EN 50 (restC 5 (bodyOf Tryz.f48)) ⟨[Z2i0,Z2i4],[(100000,.var [.own 2 (L.map adA),.map 100001,.tmap (rn.map AV.str) rv,.row 60500 0 (out.map Ru.av).length]),Z2i2 L,Z2i6 nm hd bd,(60500,.row 3 (out.map Ru.av))]⟩ ⟨[],[(100000,.var [.own 2 (L.map adA),.map 100001,.tmap (rn.map AV.str) rv,.row 60047 0 ((out.map Ru.av).length+1)]),Z2i2 L,(60047,.row 3 (out.map Ru.av++[.agg [.str nm,.seq (hd.map Ar.av) false,.seq (bd.map Li.av) false]]))]⟩:=by
 exact gE ⟨rfl,rfl⟩ 60000 [.is true] [] [K0 100000,K1 100001,K1 60047] (aC3 (show (1:Nat)≤List.length [AV.agg [AV.str nm,AV.seq (hd.map Ar.av) false,AV.seq (bd.map Li.av) false]]∧(0:Nat)=(0:Nat)∧List.length (out.map Ru.av)=List.length (out.map Ru.av)∧(∀(e:AV),e∈[AV.agg [AV.str nm,AV.seq (hd.map Ar.av) false,AV.seq (bd.map Li.av) false]]→okE (3:Nat) e)∧(∀(e:AV),e∈List.map Ru.av out→okE (3:Nat) e)∧(↑(List.length (out.map Ru.av)+List.length [AV.agg [AV.str nm,AV.seq (hd.map Ar.av) false,AV.seq (bd.map Li.av) false]]):Int)*(64:Int)≤(140737488355328:Int)∧List.length (out.map Ru.av)+List.length [AV.agg [AV.str nm,AV.seq (hd.map Ar.av) false,AV.seq (bd.map Li.av) false]]≤(9223372036854775807:Nat) from by refine ⟨by simp,rfl,rfl,by simp,by assumption,?_,?_⟩<;>(simp;omega)) (zshd3q L) (zs8daz out nm hd bd))
def vT (i:Nat):Tm:=⟨ByteArray.mk #[86]++⟨(Lib.itoa (i:Int)).toArray⟩,0,0,⟨#[]⟩⟩
def hV (n:Nat):List Ar:=(List.range n).map fun i=>⟨0,vT i⟩
def tV (n:Nat):List Tm:=(List.range n).map vT
def zEx:Ex:= .mk 0 ⟨⟨#[]⟩,0,0,⟨#[]⟩⟩ []
def gLi (p:ByteArray) (n:Nat):Li:=⟨1,p,tV n,0,zEx,zEx⟩
theorem hV_succ:hV (n+1)=hV n++[⟨0,vT n⟩]:=by simp [hV,List.range_succ]
theorem tV_succ:tV (n+1)=tV n++[vT n]:=by simp [tV,List.range_succ]
theorem hV_len:(hV n).length=n:=by simp [hV]
theorem tV_len:(tV n).length=n:=by simp [tV]
theorem itoa_small (hi:i<25):(Lib.itoa (i:Int)).length<1000:=by
 unfold Lib.itoa
 rw [if_neg (by omega),Int.toNat_natCast]
 by_cases h:i<10
 ·rw [Lib.decDigits_one h];simp
 ·rw [Lib.decDigits_two h (by omega)];simp
theorem ok_ars (l:List Ar):∀e,e∈l.map Ar.av→okE 5 e:=fun e he=>by
 obtain ⟨x,_,rfl⟩:=List.mem_map.1 he
 simp
theorem ok_tms (l:List Tm):∀e,e∈l.map Tm.av→okE 4 e:=fun e he=>by
 obtain ⟨x,_,rfl⟩:=List.mem_map.1 he
 simp
def g48 (L:List Ad) (rn:List ByteArray) (rv:List AV) (out:List Ru) (p q nm:ByteArray) (n:Nat):Nat→St
 |0=>⟨[(0,.elt 100000 0 0),(3,.tptr [.str p,.str q]),(4,.elt 4 0 0),(5,.nils),(13,.int .i64 ((n:Nat):Int)),(14,.int .i64 0)],[(100000,.var [.own 2 (L.map adA),.map 100001,.tmap (rn.map AV.str) rv,.own 3 (out.map Ru.av)]),(100001,.map (L.map adA) (ixs L.length)),(4,.var [.str nm,.nils,.nils])]⟩
 |i+1=>⟨[(0,.elt 100000 0 0),(3,.tptr [.str p,.str q]),(4,.elt 4 0 0),(5,.row 131 0 ((tV (i+1)).map Tm.av).length),(13,.int .i64 ((n:Nat):Int)),(14,.int .i64 ((i+1:Nat):Int))],[(100000,.var [.own 2 (L.map adA),.map 100001,.tmap (rn.map AV.str) rv,.own 3 (out.map Ru.av)]),(100001,.map (L.map adA) (ixs L.length)),(4,.var [.str nm,.row 126 0 ((hV (i+1)).map Ar.av).length,.nils]),(126,.row 5 ((hV (i+1)).map Ar.av)),(131,.row 4 ((tV (i+1)).map Tm.av))]⟩
def x48 (L:List Ad) (rn:List ByteArray) (rv:List AV) (out:List Ru) (p q nm:ByteArray):Nat→St
 |0=>⟨[(0,.elt 100000 0 0),(3,.tptr [.str p,.str q]),(4,.elt 4 0 0),(5,.nils)],[(100000,.var [.own 2 (L.map adA),.map 100001,.tmap (rn.map AV.str) rv,.own 3 (out.map Ru.av)]),(100001,.map (L.map adA) (ixs L.length)),(4,.var [.str nm,.nils,.nils])]⟩
 |i+1=>⟨[(0,.elt 100000 0 0),(3,.tptr [.str p,.str q]),(4,.elt 4 0 0),(5,.row 131 0 ((tV (i+1)).map Tm.av).length)],[(100000,.var [.own 2 (L.map adA),.map 100001,.tmap (rn.map AV.str) rv,.own 3 (out.map Ru.av)]),(100001,.map (L.map adA) (ixs L.length)),(4,.var [.str nm,.row 126 0 ((hV (i+1)).map Ar.av).length,.nils]),(126,.row 5 ((hV (i+1)).map Ar.av)),(131,.row 4 ((tV (i+1)).map Tm.av))]⟩
theorem l48_0 (hq:q.size≤24) (n:Nat) (hn:q.size=n):Lo 50 (loopOf Tryz.f48 0) (g48 L rn rv out p q nm n 0) (.exit 0) (x48 L rn rv out p q nm n):=by
 have k86:∀i:Nat,i≤24→Sp 86 [.int .i64 (i:Int)] [] (.str ⟨(Lib.itoa (i:Int)).toArray⟩) []:=fun i hi=>itoa_spec i (by omega) (by omega)
 have sz:∀i:Nat,i≤24→(ByteArray.mk (Lib.itoa (i:Int)).toArray).size<1000:=fun i hi=>by
  have:=itoa_small i (by omega)
  simpa [ByteArray.size] using this
 refine Loops.from (st:=g48 L rn rv out p q nm n) (N:=n) (fun i hi=> ?_) ?_
 ·cases i with
  |zero=>
   obtain ⟨e,t,⟨rfl,rfl⟩,h⟩:=t48z L rn rv out p q nm 0 (by omega) hq _ (sz 0 (by omega)) (k86 0 (by omega))
   rw [hn] at h
   exact h
  |succ i=>
   obtain ⟨e,t,⟨rfl,rfl⟩,h⟩:=t48s L rn rv out p q nm (i+1) (by omega) hq _ (sz (i+1) (by omega)) (k86 (i+1) (by omega)) (hV (i+1)) (tV (i+1)) (by rw [hV_len];omega) (by rw [tV_len];omega) (ok_ars _) (ok_tms _)
   have e1:(hV (i+1+1)).map Ar.av=(hV (i+1)).map Ar.av++[Ar.av ⟨0,vT (i+1)⟩]:=by rw [hV_succ (i+1),List.map_append];rfl
   have e2:(tV (i+1+1)).map Tm.av=(tV (i+1)).map Tm.av++[Tm.av (vT (i+1))]:=by rw [tV_succ (i+1),List.map_append];rfl
   have e3:((hV (i+1)).map Ar.av++[Ar.av ⟨0,vT (i+1)⟩]).length=((hV (i+1)).map Ar.av).length+1:=by simp
   have e4:((tV (i+1)).map Tm.av++[Tm.av (vT (i+1))]).length=((tV (i+1)).map Tm.av).length+1:=by simp
   show Rz 50 (loopOf Tryz.f48 0) (g48 L rn rv out p q nm n (i+1)) .normal (g48 L rn rv out p q nm n (i+1+1))
   rw [hn] at h
   simp only [g48]
   rw [e1,e2,e3,e4]
   exact h
 ·cases n with
  |zero=>
   obtain ⟨e,t,⟨rfl,rfl⟩,h⟩:=e48z L rn rv out p q nm
   rw [hn] at h
   exact .leave h (by simp)
  |succ i=>
   obtain ⟨e,t,⟨rfl,rfl⟩,h⟩:=e48s L rn rv out p q nm (hV (i+1)) (tV (i+1))
   rw [hn] at h
   exact .leave h (by simp)
theorem g48e:EN 50 (regOf Tryz.f48 11) (Z2i8 L rn rv out p q nm) ⟨[Z2i0,Z2i3 p q,Z2i4,(5,.nils),(13,.int .i64 ((q.size:Nat):Int)),(14,.int .i64 0)],[Z2i1 L rn rv out,Z2i2 L,Z2i5 nm]⟩:=by
 exact gE ⟨rfl,rfl⟩ 0 [] [0,3,4,5,13,14] [K0 100000,K1 100001,K1 4] (aC2 (zshd3q L) rT)
theorem le_wkEnv {n:Nat} {st:St} (t:Nat) (y:AV) (hw:Wk (lookD st.env t) y):Le n st ⟨(t,y)::st.env,st.hp⟩:=by
 rintro F a w ⟨S,β,⟨e1,e2,e3⟩,M⟩
 refine ⟨S,β,⟨e1,e2,fun k=> ?_⟩,M⟩
 by_cases e:t=k
 ·subst e
  have e4:lookD ((t,y)::st.env) t=y:=by simp [lookD,look]
  rw [e4];exact hw.V (e3 t)
 ·have e4:lookD ((t,y)::st.env) k=lookD st.env k:=by simp [lookD,look,e]
  rw [e4];exact e3 k
theorem midG:∀n:Nat,Le 50 (x48 L rn rv out p q nm n) ⟨[Z2i0,Z2i3 p q,Z2i4,(5,.seq ((tV n).map Tm.av) false)],[Z2i1 L rn rv out,Z2i2 L,(4,.var [.str nm,.seq ((hV n).map Ar.av) false,.nils])]⟩
 |0=>by
  refine (le_wkVar (n:=50) (st:=(Z2i8 L rn rv out p q nm)) 4 (cs:=[.str nm,.nils,.nils]) (ds:=[.str nm,.seq [] false,.nils]) rfl rfl (fun j x y h1 h2=> ?_) (fun j sz es h=> ?_)).trans ?_
  ·match j,h1,h2 with
   |0,h1,h2=>simp at h1 h2;subst h1;subst h2;exact .refl _
   |1,h1,h2=>simp at h1 h2;subst h1;subst h2;exact .nils
   |2,h1,h2=>simp at h1 h2;subst h1;subst h2;exact .refl _
   |n+3,h1,h2=>simp at h1
  ·match j,h with
   |0,h=>simp at h
   |1,h=>simp at h
   |2,h=>simp at h
   |n+3,h=>simp at h
  ·refine (le_wkEnv (n:=50) (st:=⟨[Z2i0,Z2i3 p q,Z2i4,(5,.nils)],[Z2i1 L rn rv out,Z2i2 L,(4,.var [.str nm,.seq [] false,.nils])]⟩) 5 (.seq [] false) .nils).trans ?_
   exact renSt_le (n:=50) (slots:=[0,3,4,5]) (tb:=[K0 100000,K1 100001,K1 4]) (cs:=[noIdsL (L.map adA)=true∧noIdsL (ixs L.length)=true,noIdsL [AV.str nm,.seq [] false,.nils]=true]) rfl (fun z hz=>by
    simp only [List.mem_cons,List.not_mem_nil,or_false] at hz
    rcases hz with rfl|rfl
    ·exact ⟨noIdsL_ads L,noIdsL_ixs _⟩
    ·rfl)
 |i+1=>by
  exact renSt_le (n:=50) (slots:=[0,3,4,5]) (tb:=[K0 100000,K1 100001,K0 4,(126,.freeze),(131,.freeze)]) (st:=⟨[Z2i0,Z2i3 p q,Z2i4,(5,.row 131 0 ((tV (i+1)).map Tm.av).length)],[Z2i1 L rn rv out,Z2i2 L,(4,.var [.str nm,.row 126 0 ((hV (i+1)).map Ar.av).length,.nils]),(126,.row 5 ((hV (i+1)).map Ar.av)),(131,.row 4 ((tV (i+1)).map Tm.av))]⟩)
   (st':=⟨[Z2i0,Z2i3 p q,Z2i4,(5,.seq ((tV (i+1)).map Tm.av) false)],[Z2i1 L rn rv out,Z2i2 L,(4,.var [.str nm,.seq ((hV (i+1)).map Ar.av) false,.nils])]⟩) (cs:=[((tV (i+1)).map Tm.av).length=((tV (i+1)).map Tm.av).length,noIdsL (L.map adA)=true∧noIdsL (ixs L.length)=true,((hV (i+1)).map Ar.av).length=((hV (i+1)).map Ar.av).length,noIdsL ((hV (i+1)).map Ar.av)=true,noIdsL ((tV (i+1)).map Tm.av)=true]) rfl (fun z hz=>by
    simp only [List.mem_cons,List.not_mem_nil,or_false] at hz
    rcases hz with rfl|rfl|rfl|rfl|rfl
    ·trivial
    ·exact ⟨noIdsL_ads L,noIdsL_ixs _⟩
    ·trivial
    ·exact noIdsL_ars _
    ·exact noIdsL_tms _)
abbrev Z2i7 (es:List AV):Nat×Ob:=(100000,.var [.own 2 (L.map adA),.map 100001,.tmap (rn.map AV.str) rv,.row 60047 0 es.length])
theorem tailG (hl:out.length<1000000000):Rz 50 (restC 5 (bodyOf Tryz.f48)) ⟨[Z2i0,Z2i4],[Z2i1 L rn rv out,Z2i2 L,Z2i6 nm hd bd]⟩ .normal ⟨[],wp L (rn.map AV.str) rv (out++[⟨nm,hd,bd⟩])⟩:=by
 have cl:∀(es:List AV),0<es.length→noIdsL es=true→∀{s:St},Rz 50 (restC 5 (bodyOf Tryz.f48)) s .normal ⟨[],[Z2i7 L rn rv es,Z2i2 L,(60047,.row 3 es)]⟩→Rz 50 (restC 5 (bodyOf Tryz.f48)) s .normal ⟨[],[(100000,.var [.own 2 (L.map adA),.map 100001,.tmap (rn.map AV.str) rv,.own 3 es]),Z2i2 L]⟩:=by
  intro es h0 h1 s h
  have ht:es.take es.length=es:=List.take_length
  have b:=h.post (le_close (n:=50) (st:=⟨[],[Z2i7 L rn rv es,Z2i2 L,(60047,.row 3 es)]⟩) 100000 3 60047 (o:= .var [.own 2 (L.map adA),.map 100001,.tmap (rn.map AV.str) rv,.row 60047 0 es.length]) rfl rfl rfl h0 (Nat.le_refl _) (by rw [ht];exact h1) (by simp [mid]))
  rw [ht] at b
  exact b.keepR [] [K0 100000,K1 100001] (cs:=[noIdsL (L.map adA)=true∧noIdsL (ixs L.length)=true]) rfl ⟨⟨noIdsL_ads L,noIdsL_ixs _⟩,trivial⟩
 have e2:wp L (rn.map AV.str) rv (out++[⟨nm,hd,bd⟩])=[(100000,.var [.own 2 (L.map adA),.map 100001,.tmap (rn.map AV.str) rv,.own 3 (out.map Ru.av++[Ru.av ⟨nm,hd,bd⟩])]),Z2i2 L]:=by
  unfold wp;rw [List.map_append];rfl
 rw [e2]
 by_cases hn:out=[]
 ·subst hn
  obtain ⟨e,t,⟨rfl,rfl⟩,h⟩:=r11n L rn rv nm hd bd
  exact (cl [Ru.av ⟨nm,hd,bd⟩] (by simp) (noIdsL_rus' [⟨nm,hd,bd⟩]) h).pre (le_openNil (st:=⟨[Z2i0,Z2i4],[(100000,.var [.own 2 (L.map adA),.map 100001,.tmap (rn.map AV.str) rv,.own 3 []]),Z2i2 L,Z2i6 nm hd bd]⟩) 100000 3 (sz:=3) rfl rfl)
 ·obtain ⟨e,t,⟨rfl,rfl⟩,h⟩:=r11r L rn rv out nm hd bd (ok_rus out) hl
  have e3:(out.map Ru.av).length+1=(out.map Ru.av++[AV.agg [.str nm,.seq (hd.map Ar.av) false,.seq (bd.map Li.av) false]]).length:=by simp
  rw [e3] at h
  exact (cl _ (by simp) (by rw [noIdsL_app,noIdsL_rus'];exact noIdsL_rus' [⟨nm,hd,bd⟩]) h).pre (le_open (st:=⟨[Z2i0,Z2i4],[Z2i1 L rn rv out,Z2i2 L,Z2i6 nm hd bd]⟩) 100000 3 60500 (sz:=3) rfl rfl (by simpa using hn) rfl (by simp [mid]))
theorem wk_gLi:Wk (.seq [.agg [.int .i8 1,.str p,.seq ((tV n).map Tm.av) false,.int .i8 0,.int .i8 0,.str ⟨#[]⟩,.int .i8 0,.int .i64 0,.str ⟨#[]⟩,.nils,.int .i8 0,.str ⟨#[]⟩,.int .i8 0,.int .i64 0,.str ⟨#[]⟩,.nils]] false) (.seq [(gLi p n).av] false):=by
 refine .seq _ _ false rfl (fun i e f h1 h2=> ?_) (fun i e f j x y h1 h2 h3 h4=> ?_)
 ·cases i with
  |zero=>simp at h1 h2;subst h1;subst h2;rfl
  |succ i=>simp at h1
 ·cases i with
  |succ i=>simp at h1
  |zero=>
   simp at h1 h2;subst h1;subst h2
   have g:(gLi p n).av.cells=[.int .i8 1,.str p,.seq ((tV n).map Tm.av) false,.int .i8 0,.int .i8 0,.str ⟨#[]⟩,.int .i8 0,.int .i64 0,.str ⟨#[]⟩,.seq [] false,.int .i8 0,.str ⟨#[]⟩,.int .i8 0,.int .i64 0,.str ⟨#[]⟩,.seq [] false]:=rfl
   rw [g] at h4
   simp only [AV.cells] at h3
   have hj:j<16:=(List.getElem?_eq_some_iff.1 h3).1
   have h5:j=9∨j=15∨(j≠9∧j≠15):=by omega
   rcases h5 with rfl|rfl|⟨h6,h7⟩
   ·simp at h3 h4;subst h3;subst h4;exact .nils
   ·simp at h3 h4;subst h3;subst h4;exact .nils
   ·have:x=y:=by
     match j,hj,h6,h7,h3,h4 with
     |0,_,_,_,h3,h4|1,_,_,_,h3,h4|2,_,_,_,h3,h4|3,_,_,_,h3,h4|4,_,_,_,h3,h4|5,_,_,_,h3,h4|6,_,_,_,h3,h4|7,_,_,_,h3,h4|8,_,_,_,h3,h4|10,_,_,_,h3,h4|11,_,_,_,h3,h4|12,_,_,_,h3,h4|13,_,_,_,h3,h4|14,_,_,_,h3,h4=>exact Option.some.inj (h3.symm.trans h4)
     |9,_,h6,_,_,_=>exact absurd rfl h6
     |15,_,_,h7,_,_=>exact absurd rfl h7
     |n+16,hj,_,_,_,_=>omega
    rw [this];exact .refl y
theorem k48 (a:Ad) (hp:a.1.size<1000000) (hq:a.2.size≤24) (hl:out.length<1000000000):
  Sp 48 [.elt 100000 0 0,.agg [.str a.1,.str a.2]] (wp L (rn.map AV.str) rv out) (.tup []) (wp L (rn.map AV.str) rv (out++[⟨nameT a.1 a.2,hV a.2.size,[gLi a.1 a.2.size]⟩])):=by
 obtain ⟨e,t,⟨rfl,rfl⟩,r0⟩:=g48a L rn rv out a.1 a.2
 obtain ⟨e,t,⟨rfl,rfl⟩,r1⟩:=g48b L rn rv out a.1 a.2 (nameT a.1 a.2) (k14 a.1 a.2 (by omega) (by omega))
 obtain ⟨e,t,⟨rfl,rfl⟩,r2⟩:=g48c L rn rv out a.1 a.2 (nameT a.1 a.2)
 obtain ⟨e,t,⟨rfl,rfl⟩,r3⟩:=g48e L rn rv out a.1 a.2 (nameT a.1 a.2)
 have e3:partC 3 (bodyOf Tryz.f48)= .seq (regOf Tryz.f48 11) (.block 0 (.loop (loopOf Tryz.f48 0))):=by kernel_rfl
 have hL:=l48_0 L rn rv out a.1 a.2 (nameT a.1 a.2) hq a.2.size rfl
 have r3':Rz 50 (partC 3 (bodyOf Tryz.f48)) ⟨[Z2i0,(3,.tptr [.str a.1,.str a.2]),Z2i4,(5,.nils)],[Z2i1 L rn rv out,Z2i2 L,(4,.var [.str (nameT a.1 a.2),.nils,.nils])]⟩ .normal (x48 L rn rv out a.1 a.2 (nameT a.1 a.2) a.2.size):=by
  rw [e3];exact r3.seq (Loops.runs hL).exitBlk
 have r3c:=r3'.post (midG L rn rv out a.1 a.2 (nameT a.1 a.2) a.2.size)
 obtain ⟨e,t,⟨rfl,rfl⟩,r4⟩:=g48d L rn rv out a.1 a.2 (nameT a.1 a.2) (hV a.2.size) (tV a.2.size)
 have r4':=r4.post (le_wkVar (n:=50) (st:=⟨[Z2i0,Z2i4],[Z2i1 L rn rv out,Z2i2 L,(4,.var [.str (nameT a.1 a.2),.seq ((hV a.2.size).map Ar.av) false,.seq [.agg [.int .i8 1,.str a.1,.seq ((tV a.2.size).map Tm.av) false,.int .i8 0,.int .i8 0,.str ⟨#[]⟩,.int .i8 0,.int .i64 0,.str ⟨#[]⟩,.nils,.int .i8 0,.str ⟨#[]⟩,.int .i8 0,.int .i64 0,.str ⟨#[]⟩,.nils]] false])]⟩) 4 (cs:=[.str (nameT a.1 a.2),.seq ((hV a.2.size).map Ar.av) false,.seq [.agg [.int .i8 1,.str a.1,.seq ((tV a.2.size).map Tm.av) false,.int .i8 0,.int .i8 0,.str ⟨#[]⟩,.int .i8 0,.int .i64 0,.str ⟨#[]⟩,.nils,.int .i8 0,.str ⟨#[]⟩,.int .i8 0,.int .i64 0,.str ⟨#[]⟩,.nils]] false]) (ds:=[.str (nameT a.1 a.2),.seq ((hV a.2.size).map Ar.av) false,.seq [(gLi a.1 a.2.size).av] false]) rfl rfl (fun j x y h1 h2=>by
  match j,h1,h2 with
  |0,h1,h2=>simp at h1 h2;subst h1;subst h2;exact .refl _
  |1,h1,h2=>simp at h1 h2;subst h1;subst h2;exact .refl _
  |2,h1,h2=>simp at h1 h2;subst h1;subst h2;exact wk_gLi a.1 a.2.size
  |n+3,h1,h2=>simp at h1) (fun j sz es h=>by
  match j,h with
  |0,h=>simp at h
  |1,h=>simp at h
  |2,h=>simp at h
  |n+3,h=>simp at h))
 have r5:=tailG L rn rv out (nameT a.1 a.2) (hV a.2.size) [gLi a.1 a.2.size] hl
 exact sG Tryz.f48 (obs_wp L (rn.map AV.str) rv out) (Runs.nth 0 (by kernel_rfl) r0 (Runs.nth 1 (by kernel_rfl) r1 (Runs.nth 2 (by kernel_rfl) r2 (Runs.nth 3 (by kernel_rfl) r3c (Runs.nth 4 (by kernel_rfl) r4' r5))))) (.inl rfl)
end
section
variable (L:List Ad) (rk rv:List AV) (out:List Ru) (a:Ad)
theorem Spec.shut {P:Program} {f:FuncId} {args:List AV} {rest upd:List (Nat×Ob)} {r:AV} {id d sz:Nat} {es cs:List AV} (h:Spec P f args ((id,.var (.own sz es::cs))::rest) r upd) (hne:0<es.length) (hno:noIdsL es=true) (hm:mid≤d→mid≤id) (hd:d≠id)
  (hr:∀x,x∈rest→x.1≠id∧x.1≠d) (hu:∀x,x∈upd→x.1≠d) (hi:∃o,look upd id=some o) (uq:uniqK upd=true) (uq2:uniqK (upd++[(d,.dead)])=true):
  Spec P f args ((id,.var (.row d 0 es.length::cs))::(rest++[(d,.row sz es)])) r (upd++[(d,.dead)]):=by
 intro F S β hp w vs M hl hv hpl hfr
 have h1:look hp id=some (.var (.row d 0 es.length::cs)):=hpl id _ (by simp)
 have h2:look hp d=some (.row sz es):=hpl d _ (by simp)
 have M2:=M.closeOwn (j:=0) h1 rfl h2 hne (Nat.le_refl _) (by rw [List.take_length];exact hno) hm
 rw [List.take_length] at M2
 have ho:(Ob.var (.row d 0 es.length::cs)).set 0 (.own sz es)= .var (.own sz es::cs):=rfl
 rw [ho] at M2
 have lk:∀k,look (putL (putL hp id (.var (.own sz es::cs))) d .dead) k=if d=k then some .dead else if id=k then some (.var (.own sz es::cs)) else look hp k:=fun k=>by rw [look_put,look_put]
 refine (h F S β _ w vs M2 hl hv (fun k o hm'=> ?_) (fun k o hm' hn=> ?_)).mono ?_
 ·rw [lk]
  rcases List.mem_cons.1 hm' with h3|h3
  ·injection h3 with h3 h4;subst h3;subst h4
   rw [if_neg hd,if_pos rfl]
  ·obtain ⟨h4,h5⟩:=hr _ h3
   rw [if_neg (Ne.symm h5),if_neg (Ne.symm h4)]
   exact hpl k o (by simp [h3])
 ·have hk1:d≠k:=fun e=>hu _ hm' e.symm
  have hk2:id≠k:=fun e=>hn (.var (.own sz es::cs)) (by rw [e];simp)
  rw [lk,if_neg hk1,if_neg hk2]
  refine hfr k o (by simp [hm']) fun o' h3=> ?_
  rcases List.mem_cons.1 h3 with h3|h3
  ·injection h3 with h3 _;exact hk2 h3.symm
  ·rcases List.mem_append.1 h3 with h3|h3
   ·exact hn o' (by simp [h3])
   ·rw [List.mem_singleton] at h3;injection h3 with h3 _;exact hk1 h3.symm
 ·rintro e w' ⟨v,S',β',rfl,x,m,k⟩
  refine ⟨v,S',β',rfl,x,m.look_eq fun j=> ?_,k⟩
  show look (putAll _ upd) j=look (putAll hp (upd++[(d,.dead)])) j
  rw [look_putAll uq,look_putAll uq2,lk]
  have la:∀{l:List (Nat×Ob)},look (l++[(d,Ob.dead)]) j=match look l j with
    |some o=>some o
    |none=>if d=j then some .dead else none:=by
   intro l
   induction l with
   |nil=>simp only [List.nil_append,look]
   |cons y l ih=>
    obtain ⟨a,b⟩:=y
    simp only [List.cons_append,look]
    by_cases e:a=j
    ·rw [if_pos e,if_pos e]
    ·rw [if_neg e,if_neg e];exact ih
  rw [la]
  cases hk:look upd j with
  |some o=>rfl
  |none=>
   simp only
   by_cases e:d=j
   ·rw [if_pos e,if_pos e]
   ·have e2:id≠j:=by
     rintro rfl
     obtain ⟨o,ho⟩:=hi
     rw [hk] at ho;cases ho
    rw [if_neg e,if_neg e,if_neg e2]
abbrev Z2j0:Nat×Ob:=(33,.map (L.map adA) (ixs L.length))
def wq (L:List Ad) (rk rv:List AV) (out:List Ru):List (Nat×Ob):=[(32,.var [.own 2 (L.map adA),.map 33,.tmap rk rv,.own 3 (out.map Ru.av)]),Z2j0 L]
def wqO (L:List Ad) (rk rv:List AV) (out:List Ru):List (Nat×Ob):=[(32,.var [.row 34 0 (L.map adA).length,.map 33,.tmap rk rv,.own 3 (out.map Ru.av)]),Z2j0 L,(34,.row 2 (L.map adA))]
def nW:List (Nat×Nat):=[(100000,32),(100001,33)]
def lW (L:List Ad) (rk rv:List AV) (out:List Ru):List (Nat×Nat×Ob):=[(100000,32,.var [.own 2 (L.map adA),.map 33,.tmap rk rv,.own 3 (out.map Ru.av)]),(100001,33,.map (L.map adA) (ixs L.length))]
theorem wp_out:(wp L rk rv out).map (fun x=>(numO nW x.1,renOb (kOut nW) x.2))=wq L rk rv out:=by
 simp only [wp,wq,List.map_cons,List.map_nil,renOb,renL_noIds _ _ (noIdsL_ads L),renL_noIds _ _ (noIdsL_ixs L.length)]
 rfl
theorem wp_in:((lW L rk rv out).map fun x=>(x.1,renOb (kIn (lW L rk rv out)) x.2.2))=wp L rk rv out:=by
 simp only [wp,lW,List.map_cons,List.map_nil,renOb,renL_noIds _ _ (noIdsL_ads L),renL_noIds _ _ (noIdsL_ixs L.length)]
 rfl
theorem q46z (rk rv:List AV) (hp:a.1.size<1000000000000000000) (hs:a.2.size<1000000000000000000):Sp 46 [.elt 32 0 0,.agg [.str a.1,.str a.2]] [(32,.var [.own 2 [],.nilmap,.tmap rk rv,.own 3 []])] (.str (nameT a.1 a.2)) (wq [a] rk rv []):=by
 have h:=(k46z a rk rv [] hp hs).renum [(100000,32,.var [.own 2 [],.nilmap,.tmap rk rv,.own 3 []])] nW (args':=[.elt 32 0 0,.agg [.str a.1,.str a.2]]) rfl rfl rfl
 rw [wp_out] at h
 exact h
theorem shutW {f:FuncId} {args:List AV} {L L':List Ad} {rk rv:List AV} {out out':List Ru} {r:AV} (h:Sp f args (wq L rk rv out) r (wq L' rk rv out')) (hne:L≠[]):Sp f args (wqO L rk rv out) r (wq L' rk rv out'++[(34,.dead)]):=by
 refine Spec.shut (id:=32) (d:=34) (sz:=2) (es:=L.map adA) (cs:=[.map 33,.tmap rk rv,.own 3 (out.map Ru.av)]) (rest:=[Z2j0 L]) h ?_ (noIdsL_ads L) (by simp [mid]) (by decide) (fun x hx=> ?_) (fun x hx=> ?_) ⟨_,rfl⟩ rfl rfl
 ·rw [List.length_map];exact List.length_pos_iff.2 hne
 ·rw [List.mem_singleton] at hx;subst hx;exact ⟨by simp,by simp⟩
 ·simp only [wq,List.mem_cons,List.not_mem_nil,or_false] at hx
  rcases hx with rfl|rfl<;>simp
theorem q47 (rn:List ByteArray) (rv:List AV) (out:List Ru) (p:ByteArray) (hd:List Ar) (bd:List Li) (a:Ad) (hrv:RV rn rv) (hs:smallR p hd bd) (hpl:a.2.size=hd.length) (hp:a.1.size≤120) (hL:L.length<999000) (hl:out.length<1000000000) (hne:L≠[]):
  ∃(ks:List ByteArray) (L':List Ad) (body:List Li),headK a.2 hd ks∧Steps rn L ks bd L' body∧Sp 47 [.elt 32 0 0,.agg [.str p,.seq (hd.map Ar.av) false,.seq (bd.map Li.av) false],.agg [.str a.1,.str a.2]] (wqO L (rn.map AV.str) rv out) (.tup []) (wq L' (rn.map AV.str) rv (out++[⟨nameT a.1 a.2,hd,body⟩])++[(34,.dead)]):=by
 obtain ⟨ks,L',body,h1,h2,h⟩:=k47 L rn rv out p hd bd a hrv hs hpl hp hL hl
 have h3:=h.renum (lW L (rn.map AV.str) rv out) nW (args':=[.elt 32 0 0,.agg [.str p,.seq (hd.map Ar.av) false,.seq (bd.map Li.av) false],.agg [.str a.1,.str a.2]]) rfl (wp_in ..) rfl
 rw [wp_out] at h3
 exact ⟨ks,L',body,h1,h2,shutW h3 hne⟩
theorem q48 (rn:List ByteArray) (rv:List AV) (out:List Ru) (a:Ad) (hp:a.1.size<1000000) (hq:a.2.size≤24) (hl:out.length<1000000000) (hne:L≠[]):
  Sp 48 [.elt 32 0 0,.agg [.str a.1,.str a.2]] (wqO L (rn.map AV.str) rv out) (.tup []) (wq L (rn.map AV.str) rv (out++[⟨nameT a.1 a.2,hV a.2.size,[gLi a.1 a.2.size]⟩])++[(34,.dead)]):=by
 have h3:=(k48 L rn rv out a hp hq hl).renum (lW L (rn.map AV.str) rv out) nW (args':=[.elt 32 0 0,.agg [.str a.1,.str a.2]]) rfl (wp_in ..) rfl
 rw [wp_out] at h3
 exact shutW h3 hne
end
section
variable (L:List Ad) (rn:List ByteArray) (rv:List AV) (out:List Ru) (gz qc:List AV)
abbrev Z2k0:Nat×Ob:=(32,.var [.row 34 0 (L.map adA).length,.map 33,.tmap (rn.map AV.str) rv,.own 3 (out.map Ru.av)])
abbrev Z2k1:Nat×Ob:=(33,.map (L.map adA) (ixs L.length))
abbrev Z2k2:Nat×Ob:=(34,.row 2 (L.map adA))
abbrev Z2k3 (L':List Ad) (out':List Ru):Nat×Ob:=(32,.var [.own 2 (L'.map adA),.map 33,.tmap (rn.map AV.str) rv,.own 3 (out'.map Ru.av)])
abbrev Z2k4 (L':List Ad):Nat×Ob:=(33,.map (L'.map adA) (ixs L'.length))
abbrev Z2k5:Nat×AV:=(4,.elt 4 0 0)
abbrev Z2k6:Nat×AV:=(9,.elt 32 0 0)
abbrev Z2k7 (i:Nat):Nat×AV:=(12,.int .i64 (i:Int))
abbrev Z2k8 (rs:List Ru):Nat×AV:=(100,.seq (rs.map Ru.av) false)
abbrev Z2k9 (rs:List Ru):Nat×AV:=(101,.int .i64 ((rs.map Ru.av).length:Nat))
theorem t18i (hz:noIdsL gz=true) (i:Nat) (L':List Ad) (out':List Ru) (a:Ad) (r:Ru) (rs:List Ru) (k:Nat) (hk:k<rs.length) (hsm:rs.length≤2000000) (hi:i<L.length) (hr:0≤(k:Int)∧(rs.map Ru.av)[Int.toNat (k:Int)]? =some r.av) (hx:(L.map adA)[0+Int.toNat (i:Int)]? =some (.agg [.str a.1,.str a.2])) (k47:Sp 47 [.elt 32 0 0,.agg [.str r.p,.seq (r.hd.map Ar.av) false,.seq (r.bd.map Li.av) false],.agg [.str a.1,.str a.2]] [Z2k0 L rn rv out,Z2k1 L,Z2k2 L] (.tup []) [Z2k3 rn rv L' out',Z2k4 L',(34,.dead)]):EN 153 (loopOf Tryz.f18 2) ⟨[Z2k5,(8,.tptr qc),Z2k6,Z2k7 i,Z2k8 rs,Z2k9 rs,(102,.int .i64 (k:Int))],[(4,.var gz),Z2k0 L rn rv out,Z2k1 L,Z2k2 L]⟩ ⟨[Z2k5,(8,.tptr qc),Z2k6,Z2k7 i,Z2k8 rs,Z2k9 rs,(102,.int .i64 ((k+1:Nat):Int))],[(4,.var gz),Z2k3 rn rv L' out',Z2k4 L']⟩:=by
 have hs0:=k47
 exact gE ⟨rfl,rfl⟩ 0 [.is true,.elt (Ru.av r),.elt (.agg [.str (Prod.fst a),.str (Prod.snd a)]),.call (.tup []) [32,33,34] [Z2k3 rn rv L' out',Z2k4 L',(34,.dead)]] [4,8,9,12,100,101,102] [K1 4,K0 32,K1 33] (aC8 (d1 Ru.av rs k (by omega)) hr (show 0≤(i:Int)∧(i:Int)<(↑(L.map adA).length:Int) from by simp;omega) hx hs0 (w1 k (by omega)) hz (show noIdsL (List.map adA L')=true∧noIdsL (ixs (List.length L'))=true from by simp))
abbrev Z2ka:Nat×Ob:=(32,.var [.own 2 (L.map adA),.map 33,.tmap (rn.map AV.str) rv,.own 3 (out.map Ru.av)])
abbrev Z2kc (i:Nat):St:=⟨[Z2k5,(8,.tptr qc),Z2k6,Z2k7 i],[(4,.var gz),Z2ka L rn rv out,Z2k1 L]⟩
theorem e18i (hz:noIdsL gz=true) (i:Nat) (rs:List Ru):En 153 (loopOf Tryz.f18 2) ⟨[Z2k5,(8,.tptr qc),Z2k6,Z2k7 i,Z2k8 rs,Z2k9 rs,(102,.int .i64 ((rs.length:Nat):Int))],[(4,.var gz),Z2ka L rn rv out,Z2k1 L]⟩ (fun e t=>e= .exit 4∧t=(Z2kc L rn rv out gz qc i)):=by
 exact gE ⟨rfl,rfl⟩ 0 [.is false] [4,8,9,12] [K1 4,K0 32,K1 33] (aC3 (zs40eu rs) hz (zshd3q L))
abbrev Z2kd (i:Nat):St:=⟨[Z2k5,(8,.tptr qc),Z2k6,Z2k7 i],[(4,.var gz),Z2k0 L rn rv out,Z2k1 L,Z2k2 L]⟩
theorem r18a (hz:noIdsL gz=true) (i:Nat) (a:Ad) (rs:List Ru) (hi:i<L.length) (hx:(L.map adA)[0+Int.toNat (i:Int)]? =some (.agg [.str a.1,.str a.2])) (hf:∃j,findA true (.str a.1) (rn.map AV.str) 0=some (some j)∧rv[j]? =some (.seq (rs.map Ru.av) false)):EN 153 (regOf Tryz.f18 87) (Z2kd L rn rv out gz qc i) ⟨[Z2k5,(8,.tptr qc),Z2k6,Z2k7 i,Z2k8 rs,Z2k9 rs,(102,.int .i64 0)],[(4,.var gz),Z2k0 L rn rv out,Z2k1 L,Z2k2 L]⟩:=by
 exact gE ⟨rfl,rfl⟩ 0 [.elt (.agg [.str (Prod.fst a),.str (Prod.snd a)]),.elt (.seq (rs.map Ru.av) false)] [4,8,9,12,100,101,102] [K1 4,K0 32,K1 33,K1 34] (aC6 (show 0≤(i:Int)∧(i:Int)<(↑(L.map adA).length:Int) from by simp;omega) hx hf hz (zshd3q L) (show noIdsL (L.map adA)=true from by simp))
abbrev Z2kb (out':List Ru):Nat×Ob:=(32,.var [.own 2 (L.map adA),.map 33,.tmap (rn.map AV.str) rv,.own 3 (out'.map Ru.av)])
theorem r18b (hz:noIdsL gz=true) (i:Nat) (out':List Ru) (a:Ad) (hi:i<L.length) (hx:(L.map adA)[0+Int.toNat (i:Int)]? =some (.agg [.str a.1,.str a.2])) (k48:Sp 48 [.elt 32 0 0,.agg [.str a.1,.str a.2]] [Z2k0 L rn rv out,Z2k1 L,Z2k2 L] (.tup []) [Z2kb L rn rv out',Z2k1 L,(34,.dead)]):EN 153 (regOf Tryz.f18 118) (Z2kd L rn rv out gz qc i) ⟨[Z2k5,(8,.tptr qc),Z2k6,Z2k7 i],[(4,.var gz),Z2kb L rn rv out',Z2k1 L]⟩:=by
 have hs0:=k48
 exact gE ⟨rfl,rfl⟩ 0 [.elt (.agg [.str (Prod.fst a),.str (Prod.snd a)]),.call (.tup []) [32,33,34] [Z2kb L rn rv out',Z2k1 L,(34,.dead)]] [4,8,9,12] [K1 4,K0 32,K1 33] (aC5 (show 0≤(i:Int)∧(i:Int)<(↑(L.map adA).length:Int) from by simp;omega) hx hs0 hz (zshd3q L))
theorem r18c (hz:noIdsL gz=true) (i:Nat) (hi:i<L.length) (hL:L.length<1000000):EN 153 (regOf Tryz.f18 85) (Z2kc L rn rv out gz qc i) ⟨[Z2k5,(8,.tptr qc),Z2k6,(12,.int .i64 ((i+1:Nat):Int))],[(4,.var gz),Z2ka L rn rv out,Z2k1 L]⟩:=by
 exact gE ⟨rfl,rfl⟩ 0 [] [4,8,9,12] [K1 4,K0 32,K1 33] (aC3 (w1 i (by omega)) hz (zshd3q L))
theorem h18 (hz:noIdsL gz=true) (i:Nat) (hll:(L.map adA).length=L.length) (hi:i<L.length):EN 153 (fstC (loopOf Tryz.f18 1)) (Z2kc L rn rv out gz qc i) (Z2kc L rn rv out gz qc i):=by
 exact gE ⟨rfl,rfl⟩ 0 [.is true] [4,8,9,12] [K1 4,K0 32,K1 33] (aC3 (show decide ((i:Int)<(↑(L.map adA).length:Int))=true from decide_eq_true (by omega)) hz (zshd3q L))
theorem z18 (hz:noIdsL gz=true) (i:Nat) (hll:(L.map adA).length=L.length) (hi:i=L.length):En 153 (loopOf Tryz.f18 1) (Z2kc L rn rv out gz qc i) (fun e t=>e= .exit 2∧t=⟨[Z2k5,(8,.tptr qc),Z2k6],[(4,.var gz),Z2ka L rn rv out,Z2k1 L]⟩):=by
 exact gE ⟨rfl,rfl⟩ 0 [.is false] [4,8,9] [K1 4,K0 32,K1 33] (aC3 (show decide ((i:Int)<(↑(L.map adA).length:Int))=false from decide_eq_false (by omega)) hz (zshd3q L))
def rulesOf (rules:List Ru) (u:ByteArray):List Ru:=rules.filter fun r=>decide (r.p=u)
def rvOf (rules:List Ru) (rn:List ByteArray):List AV:=rn.map fun u=> .seq ((rulesOf rules u).map Ru.av) false
theorem mem_rulesOf {rules:List Ru} {u:ByteArray} {r:Ru}:r∈rulesOf rules u↔r∈rules∧r.p=u:=by simp [rulesOf]
def RN (rules:List Ru) (rn:List ByteArray):Prop:=∀u,u∈rn↔∃r,r∈rules∧r.p=u
theorem RV_of {rules:List Ru} {rn:List ByteArray} (h:RN rules rn):RV rn (rvOf rules rn):=fun j hj=>by
 refine ⟨(rulesOf rules rn[j]).map Ru.av,by simp [rvOf,List.getElem?_eq_getElem hj],?_⟩
 obtain ⟨r,h1,h2⟩:=(h rn[j]).1 (List.getElem_mem hj)
 rw [List.length_map]
 exact List.length_pos_of_mem (mem_rulesOf.2 ⟨h1,h2⟩)
inductive Wrs (rn:List ByteArray) (a:Ad):List Ru→List Ad→List Ru→List Ad→List Ru→Prop where
 |nil (L:List Ad) (out:List Ru):Wrs rn a [] L out L out
 |cons {r:Ru} {rs out out':List Ru} {L L1 L':List Ad} {ks:List ByteArray} {body:List Li} (h1:headK a.2 r.hd ks) (h2:Steps rn L ks r.bd L1 body) (h3:Wrs rn a rs L1 (out++[⟨nameT a.1 a.2,r.hd,body⟩]) L' out'):Wrs rn a (r::rs) L out L' out'
def gRu (a:Ad):Ru:=⟨nameT a.1 a.2,hV a.2.size,[gLi a.1 a.2.size]⟩
inductive Ads (rules:List Ru) (rn:List ByteArray):Nat→List Ad→List Ru→List Ad→List Ru→Prop where
 |stop (L:List Ad) (out:List Ru):Ads rules rn L.length L out L out
 |go {i:Nat} {a:Ad} {L L1 L':List Ad} {out out1 out':List Ru} (h1:L[i]? =some a) (h2:Wrs rn a (rulesOf rules a.1) L out L1 out1) (h3:Ads rules rn (i+1) L1 (out1++[gRu a]) L' out'):Ads rules rn i L out L' out'
structure UOK (rules:List Ru) (rn:List ByteArray) (U:List Ad):Prop where
 few:U.length≤100
 step:∀r,r∈rules→∀x,x∈r.bd→x.k=1→x.p∈rn→∀ks,(x.p,patT x.ts ks)∈U
 ari:∀a,a∈U→∀r,r∈rules→r.p=a.1→a.2.size=r.hd.length
 mem:∀a,a∈U→a.1∈rn∧a.1.size≤120∧a.2.size≤24
 bf:∀a,a∈U→∀b:UInt8,b∈a.2.data.toList→b=98∨b=102
def Good (U L:List Ad):Prop:=L.Nodup∧∀a,a∈L→a∈U
theorem nodup_len {α:Type}:∀{l m:List α},l.Nodup→(∀x,x∈l→x∈m)→l.length≤m.length
 |[],m,_,_=>Nat.zero_le _
 |x::r,m,hd,hs=>by
  obtain ⟨s,t,rfl⟩:=List.append_of_mem (hs x (by simp))
  have hx:=(List.nodup_cons.1 hd)
  have:=nodup_len (l:=r) (m:=s++t) hx.2 (fun y hy=>by
   have h1:=hs y (by simp [hy])
   simp only [List.mem_append,List.mem_cons] at h1⊢
   rcases h1 with h1|h1|h1
   ·exact .inl h1
   ·subst h1;exact absurd hy hx.1
   ·exact .inr h1)
  simp only [List.length_append,List.length_cons] at this⊢
  omega
theorem Good.len {U L:List Ad} (h:Good U L):L.length≤U.length:=nodup_len h.1 h.2
theorem Good.meet {U L:List Ad} (h:Good U L) {a:Ad} (ha:a∈U):Good U (meetL L a):=by
 unfold meetL
 split
 ·exact h
 ·rename_i hn
  refine ⟨List.nodup_append.2 ⟨h.1,by simp,fun x hx y hy=> ?_⟩,fun x hx=> ?_⟩
  ·rw [List.mem_singleton] at hy;subst hy;rintro rfl;exact hn hx
  ·rcases List.mem_append.1 hx with hx|hx
   ·exact h.2 x hx
   ·rw [List.mem_singleton] at hx;rw [hx];exact ha
theorem meetL_pre (a:Ad):L<+:meetL L a:=by
 unfold meetL
 split
 ·exact List.prefix_refl L
 ·exact List.prefix_append L [a]
theorem Steps.good {rn:List ByteArray} {U L L':List Ad} {ks:List ByteArray} {rest body:List Li} (h:Steps rn L ks rest L' body):(∀x,x∈rest→x.k=1→x.p∈rn→∀ks,(x.p,patT x.ts ks)∈U)→Good U L→Good U L'∧L<+:L':=by
 induction h with
 |nil L ks=>exact fun _ g=>⟨g,List.prefix_refl L⟩
 |skip i x hx hn h ih=>exact fun hs g=>ih (fun y hy=>hs y (List.mem_of_mem_eraseIdx hy)) g
 |ask i x hx hk hp h ih=>
  intro hs g
  obtain ⟨g1,g2⟩:=ih (fun y hy=>hs y (List.mem_of_mem_eraseIdx hy)) (g.meet (hs x (List.mem_of_getElem? hx) hk hp _))
  exact ⟨g1,(meetL_pre _ _).trans g2⟩
theorem pre_get {α:Type} {l m:List α} (h:l<+:m) {i:Nat} {x:α} (hx:l[i]? =some x):m[i]? =some x:=by
 obtain ⟨t,rfl⟩:=h
 rw [List.getElem?_append_left (List.getElem?_eq_some_iff.1 hx).1];exact hx
theorem openQ (n:Nat) (L:List Ad) (rk rv:List AV) (out:List Ru) (gz:List AV) (env:List (Nat×AV)) (hne:L≠[]):Le n ⟨env,(4,.var gz)::wq L rk rv out⟩ ⟨env,(4,.var gz)::wqO L rk rv out⟩:=
 le_open (n:=n) (st:=⟨env,(4,.var gz)::wq L rk rv out⟩) 32 0 34 (sz:=2) (es:=L.map adA) (o:= .var [.own 2 (L.map adA),.map 33,.tmap rk rv,.own 3 (out.map Ru.av)]) rfl rfl (by simpa using hne) rfl (by simp [mid])
theorem closeQ (n:Nat) (L:List Ad) (rk rv:List AV) (out:List Ru) (gz:List AV) (env:List (Nat×AV)) (hne:L≠[]):Le n ⟨env,(4,.var gz)::wqO L rk rv out⟩ ⟨env,(4,.var gz)::(wq L rk rv out++[(34,.dead)])⟩:=by
 have h:=le_close (n:=n) (st:=⟨env,(4,.var gz)::wqO L rk rv out⟩) 32 0 34 (sz:=2) (es:=L.map adA) (m:=(L.map adA).length) (o:= .var [.row 34 0 (L.map adA).length,.map 33,.tmap rk rv,.own 3 (out.map Ru.av)]) rfl rfl rfl (by rw [List.length_map];exact List.length_pos_iff.2 hne) (Nat.le_refl _) (by rw [List.take_length];exact noIdsL_ads L) (by simp [mid])
 rw [List.take_length] at h
 exact h
theorem l18i (rules:List Ru) (rn:List ByteArray) (U:List Ad) (gz qc:List AV) (hz:noIdsL gz=true) (i:Nat) (a:Ad) (rs:List Ru) (hrn:RN rules rn) (hu:UOK rules rn U) (hsm:rs.length≤2000000) (hrs:∀r,r∈rs→r∈rules∧r.p=a.1∧smallR r.p r.hd r.bd):∀(m k:Nat) (L:List Ad) (out:List Ru),k+m=rs.length→Good U L→L[i]? =some a→out.length+m<900000000→
  ∃(L':List Ad) (out':List Ru),Wrs rn a (rs.drop k) L out L' out'∧Good U L'∧L<+:L'∧out'.length=out.length+m∧Lo 153 (loopOf Tryz.f18 2) ⟨[Z2k5,(8,.tptr qc),Z2k6,Z2k7 i,Z2k8 rs,Z2k9 rs,(102,.int .i64 (k:Int))],(4,.var gz)::wq L (rn.map AV.str) (rvOf rules rn) out⟩ (.exit 4) ⟨[Z2k5,(8,.tptr qc),Z2k6,Z2k7 i],(4,.var gz)::wq L' (rn.map AV.str) (rvOf rules rn) out'⟩
 |0,k,L,out,hk,hg,ha,_=>by
  have e:rs.drop k=[]:=List.drop_of_length_le (by omega)
  rw [e]
  refine ⟨L,out,.nil L out,hg,List.prefix_refl L,rfl,?_⟩
  have:k=rs.length:=by omega
  subst this
  obtain ⟨e,t,⟨rfl,rfl⟩,h⟩:=e18i L rn (rvOf rules rn) out gz qc hz i rs
  exact .leave h (by simp)
 |m+1,k,L,out,hk,hg,ha,ho=>by
  have hlt:k<rs.length:=by omega
  have hr:rs[k]? =some rs[k]:=List.getElem?_eq_getElem hlt
  have hd:rs.drop k=rs[k]::rs.drop (k+1):=List.drop_eq_getElem_cons hlt
  rw [hd]
  generalize rs[k]=r at hr
  obtain ⟨h1,h2,h3⟩:=hrs r (List.mem_of_getElem? hr)
  have hi:i<L.length:=(List.getElem?_eq_some_iff.1 ha).1
  have hne:L≠[]:=by rintro rfl;simp at hi
  have haU:=hg.2 a (List.mem_of_getElem? ha)
  have hLl:=hg.len
  have huf:=hu.few
  obtain ⟨ks,L1,body,q1,q2,q3⟩:=q47 L rn (rvOf rules rn) out r.p r.hd r.bd a (RV_of hrn) h3 (hu.ari a haU r h1 h2) (hu.mem a haU).2.1 (by omega) (by omega) hne
  obtain ⟨g1,g2⟩:=q2.good (fun x hx=>hu.step r h1 x hx) hg
  obtain ⟨L',out',w1,w2,w3,w4,w5⟩:=l18i rules rn U gz qc hz i a rs hrn hu hsm hrs m (k+1) L1 (out++[⟨nameT a.1 a.2,r.hd,body⟩]) (by omega) g1 (pre_get g2 ha) (by simp;omega)
  have hx:(L.map adA)[0+Int.toNat (i:Int)]? =some (.agg [.str a.1,.str a.2]):=by rw [Nat.zero_add,Int.toNat_natCast,List.getElem?_map,ha];rfl
  obtain ⟨e,t,⟨rfl,rfl⟩,h⟩:=t18i L rn (rvOf rules rn) out gz qc hz i L1 (out++[(⟨nameT a.1 a.2,r.hd,body⟩:Ru)]) a r rs k hlt hsm hi ⟨by omega,get_of Ru.av hr⟩ hx q3
  refine ⟨L',out',.cons q1 q2 w1,w2,g2.trans w3,by rw [w4];simp;omega,.turn (h.pre (openQ 153 L (rn.map AV.str) (rvOf rules rn) out gz _ hne)) w5⟩
theorem l18o (rules:List Ru) (rn:List ByteArray) (U:List Ad) (gz qc:List AV) (hz:noIdsL gz=true) (hrn:RN rules rn) (hu:UOK rules rn U) (hsm:rules.length≤2000000) (hs:∀r,r∈rules→smallR r.p r.hd r.bd):∀(m i:Nat) (L:List Ad) (out:List Ru),U.length≤i+m→i≤L.length→Good U L→out.length+m*2000001<900000000→
  ∃(L':List Ad) (out':List Ru),Ads rules rn i L out L' out'∧Good U L'∧L<+:L'∧out'.length<900000000∧Lo 153 (loopOf Tryz.f18 1) ⟨[Z2k5,(8,.tptr qc),Z2k6,Z2k7 i],(4,.var gz)::wq L (rn.map AV.str) (rvOf rules rn) out⟩ (.exit 2) ⟨[Z2k5,(8,.tptr qc),Z2k6],(4,.var gz)::wq L' (rn.map AV.str) (rvOf rules rn) out'⟩:=by
 have stop:∀(L:List Ad) (out:List Ru),Good U L→out.length<900000000→∃(L':List Ad) (out':List Ru),Ads rules rn L.length L out L' out'∧Good U L'∧L<+:L'∧out'.length<900000000∧Lo 153 (loopOf Tryz.f18 1) ⟨[Z2k5,(8,.tptr qc),Z2k6,(12,.int .i64 ((L.length:Nat):Int))],(4,.var gz)::wq L (rn.map AV.str) (rvOf rules rn) out⟩ (.exit 2) ⟨[Z2k5,(8,.tptr qc),Z2k6],(4,.var gz)::wq L' (rn.map AV.str) (rvOf rules rn) out'⟩:=by
  intro L out hg ho
  obtain ⟨e,t,⟨rfl,rfl⟩,h⟩:=z18 L rn (rvOf rules rn) out gz qc hz L.length (List.length_map ..) rfl
  exact ⟨L,out,.stop L out,hg,List.prefix_refl L,ho,.leave h (by simp)⟩
 have e3:sndC (loopOf Tryz.f18 1)= .seq (.block 3 (.seq (.seq (regOf Tryz.f18 87) (.block 4 (.loop (loopOf Tryz.f18 2)))) (regOf Tryz.f18 118))) (regOf Tryz.f18 85):=by kernel_rfl
 intro m
 induction m with
 |zero=>
  intro i L out hUm hi hg ho
  have hLl:=hg.len
  have:i=L.length:=by omega
  subst this
  exact stop L out hg (by omega)
 |succ m ih=>
  intro i L out hUm hi hg ho
  by_cases hie:i=L.length
  ·subst hie
   exact stop L out hg (by omega)
  ·have hlt:i<L.length:=by omega
   have ha:L[i]? =some L[i]:=List.getElem?_eq_getElem hlt
   generalize L[i]=a at ha
   have hne:L≠[]:=by rintro rfl;simp at hlt
   have haU:=hg.2 a (List.mem_of_getElem? ha)
   have hLl:=hg.len
   have huf:=hu.few
   obtain ⟨u1,u2,u3⟩:=hu.mem a haU
   have hrl:(rulesOf rules a.1).length≤rules.length:=List.length_filter_le ..
   obtain ⟨L1,out1,w1,w2,w3,w4,w5⟩:=l18i rules rn U gz qc hz i a (rulesOf rules a.1) hrn hu (by omega) (fun r hr=>⟨(mem_rulesOf.1 hr).1,(mem_rulesOf.1 hr).2,hs r (mem_rulesOf.1 hr).1⟩) (rulesOf rules a.1).length 0 L out (by omega) hg ha (by omega)
   rw [List.drop_zero] at w1
   have ha1:=pre_get w3 ha
   have hlt1:i<L1.length:=(List.getElem?_eq_some_iff.1 ha1).1
   have hne1:L1≠[]:=by rintro rfl;simp at hlt1
   have hL1:=w2.len
   have hx:∀{M:List Ad},M[i]? =some a→(M.map adA)[0+Int.toNat (i:Int)]? =some (.agg [.str a.1,.str a.2]):=fun {M} h=>by rw [Nat.zero_add,Int.toNat_natCast,List.getElem?_map,h];rfl
   obtain ⟨L',out',x1,x2,x3,x4,x5⟩:=ih (i+1) L1 (out1++[gRu a]) (by omega) (by omega) w2 (by simp;omega)
   refine ⟨L',out',.go ha w1 x1,x2,w3.trans x3,x4,.turn ?_ x5⟩
   obtain ⟨j,hf,hj⟩:=findA_some (i:=0) u1
   rw [Nat.zero_add] at hf
   have hrj:(rvOf rules rn)[j]? =some (.seq ((rulesOf rules a.1).map Ru.av) false):=by
    unfold rvOf
    rw [List.getElem?_map,hj];rfl
   obtain ⟨e,t,⟨rfl,rfl⟩,c0⟩:=h18 L rn (rvOf rules rn) out gz qc hz i (List.length_map ..) hlt
   obtain ⟨e,t,⟨rfl,rfl⟩,c1⟩:=r18a L rn (rvOf rules rn) out gz qc hz i a (rulesOf rules a.1) hlt (hx ha) ⟨j,hf,hrj⟩
   have c1':=(c1.pre (openQ 153 L (rn.map AV.str) (rvOf rules rn) out gz _ hne)).post (closeQ 153 L (rn.map AV.str) (rvOf rules rn) out gz _ hne)
   have c1d:=c1'.keepR [4,8,9,12,100,101,102] [K1 4,K0 32,K1 33] (st':=⟨[Z2k5,(8,.tptr qc),Z2k6,Z2k7 i,(100,.seq ((rulesOf rules a.1).map Ru.av) false),(101,.int .i64 (((rulesOf rules a.1).map Ru.av).length:Nat)),(102,.int .i64 0)],(4,.var gz)::wq L (rn.map AV.str) (rvOf rules rn) out⟩) (cs:=[noIdsL gz=true,noIdsL (L.map adA)=true∧noIdsL (ixs L.length)=true]) rfl ⟨hz,⟨noIdsL_ads L,noIdsL_ixs _⟩,trivial⟩
   have c2:=(Loops.runs w5).exitBlk
   obtain ⟨e,t,⟨rfl,rfl⟩,c3⟩:=r18b L1 rn (rvOf rules rn) out1 gz qc hz i (out1++[gRu a]) a hlt1 (hx ha1) (q48 L1 rn (rvOf rules rn) out1 a (by omega) u3 (by omega) hne1)
   have c3':=c3.pre (openQ 153 L1 (rn.map AV.str) (rvOf rules rn) out1 gz _ hne1)
   obtain ⟨e,t,⟨rfl,rfl⟩,c4⟩:=r18c L1 rn (rvOf rules rn) (out1++[gRu a]) gz qc hz i hlt1 (by omega)
   refine Runs.cut (by kernel_rfl) c0 ?_
   rw [e3]
   exact ((c1d.seq c2).seq c3').blk.seq c4
end
section
variable (rules:List Ru) (p:ByteArray) (ts:List Tm)
abbrev Z2l0:Nat×AV:=(0,.seq (rules.map Ru.av) false)
abbrev Z2l1:Nat×AV:=(3,.tptr [.str p,.seq (ts.map Tm.av) false])
abbrev Z2l2:Nat×AV:=(4,.elt 4 0 0)
abbrev Z2l3:Nat×Ob:=(4,.var [.nils,.str ⟨#[]⟩,.nils,.nils])
abbrev Z2l5:St:=⟨[Z2l0 rules,Z2l1 p ts,Z2l2],[Z2l3]⟩
theorem w18a:EN 153 (partC 0 (bodyOf Tryz.f18)) ⟨[Z2l0 rules,(1,atA p ts)],[]⟩ (Z2l5 rules p ts):=by
 exact gE ⟨rfl,rfl⟩ 0 [] [0,3,4] [(3,.freeze),K1 4] (aC2 rT rT)
theorem b18e (rc:Int) (hne:(!decide (rc=0))=true) (k44:Sp 44 [.seq (rules.map Ru.av) false,atA p ts] [] (.int .i64 rc) []):En 153 (restC 1 (bodyOf Tryz.f18)) (Z2l5 rules p ts) (fun e t=>e= .ret∧t=⟨[Z2l2,(5,.nils),(6,.int .i64 rc)],[Z2l3]⟩):=by
 exact gE ⟨rfl,rfl⟩ 0 [.call (.int .i64 rc) [] [],.is true] [4,5,6] [K1 4] (aC3 k44 hne rT)
theorem w18b (k44:Sp 44 [.seq (rules.map Ru.av) false,atA p ts] [] (.int .i64 0) []):EN 153 (partC 1 (bodyOf Tryz.f18)) (Z2l5 rules p ts) (Z2l5 rules p ts):=by
 have hs0:=k44
 exact gE ⟨rfl,rfl⟩ 0 [.call (.int .i64 0) [] [],.is false] [0,3,4] [K1 4] (aC3 hs0 rF rT)
abbrev Z2l4:Nat×Ob:=(8,.var [.str p,.seq (ts.map Tm.av) false])
abbrev Z2l6:St:=⟨[Z2l0 rules,Z2l1 p ts,Z2l2,(8,.elt 8 0 0)],[Z2l3,Z2l4 p ts]⟩
theorem w18c (hts:ts.length≤24):EN 153 (partC 2 (bodyOf Tryz.f18)) (Z2l5 rules p ts) (Z2l6 rules p ts):=by
 have hs0:=k45 ts (by omega)
 exact gE ⟨rfl,rfl⟩ 0 [.call (.seq (ts.map Tm.av) false) [] []] [0,3,4,8] [K1 4,K1 8] (aC3 hs0 rT rT)
theorem w18d:EN 153 (partC 3 (bodyOf Tryz.f18)) (Z2l6 rules p ts) ⟨[Z2l0 rules,Z2l1 p ts,Z2l2,(8,.elt 8 0 0),(9,.elt 32 0 0)],[Z2l3,Z2l4 p ts,(30,.map [] []),(32,.var [.nils,.nilmap,.map 30,.nils])]⟩:=by
 exact gE ⟨rfl,rfl⟩ 0 [] [0,3,4,8,9] [K1 4,K1 8,K1 30,K0 32] (aC3 rT rT rTT)
end
section
variable (rules:List Ru) (p:ByteArray) (ts:List Tm) (rn:List ByteArray) (vs:List AV)
theorem ev18 {n base:Nat} {c:Code} {sc:List Dir} {st st':St} {e:Out} (cs:List Prop) (h:(evalC Proofs.Tryz.prog n base c sc st).map (fun x=>(x.1,x.2.1,x.2.2.1.map Cond.p,x.2.2.2))=some (e,st',cs,[])) (hc:allP cs):Runs Proofs.Tryz.prog n c st e st':=by
 cases he:evalC Proofs.Tryz.prog n base c sc st with
 |none=>rw [he] at h;cases h
 |some x=>
  obtain ⟨e1,s1,c1,d1⟩:=x
  rw [he] at h
  simp only [Option.map_some,Option.some.injEq,Prod.mk.injEq] at h
  obtain ⟨rfl,rfl,rfl,rfl⟩:=h
  exact evalC_sound Tryz_mix c he fun q hq=>allP_mem hc q.p (List.mem_map.2 ⟨q,hq,rfl⟩)
theorem set_lastQ {α:Type} (l:List α) (x y:α):(l++[x]).set l.length y=l++[y]:=by
 induction l with
 |nil=>rfl
 |cons a l ih=>simp [ih]
theorem m18n (rules:List Ru) (p:ByteArray) (ts:List Tm) (rn:List ByteArray) (vs:List AV) (hv:noIdsL vs=true) (y:Ru) (i:Nat) (hf:findA true (.str y.p) (rn.map AV.str) 0=some none):Rz 153 (regOf Tryz.f18 39) ⟨[(3,.tptr [.str p,.seq (ts.map Tm.av) false]),(4,.elt 4 0 0),(8,.elt 8 0 0),(9,.elt 32 0 0),(11,.elt 11 0 0),(33,.seq (rules.map Ru.av) false),(34,.int .i64 ((rules.map Ru.av).length:Nat)),(35,.int .i64 (i:Int))],[(4,.var [.nils,.str ⟨#[]⟩,.nils,.nils]),(8,.var [.str p,.seq (ts.map Tm.av) false]),(30,.map (rn.map AV.str) vs),(32,.var [.own 2 [],.nilmap,.map 30,.own 3 []]),(11,.var [.str y.p,.seq (y.hd.map Ar.av) false,.seq (y.bd.map Li.av) false])]⟩ .normal ⟨[(3,.tptr [.str p,.seq (ts.map Tm.av) false]),(4,.elt 4 0 0),(8,.elt 8 0 0),(9,.elt 32 0 0),(33,.seq (rules.map Ru.av) false),(34,.int .i64 ((rules.map Ru.av).length:Nat)),(35,.int .i64 (i:Int))],[(4,.var [.nils,.str ⟨#[]⟩,.nils,.nils]),(8,.var [.str p,.seq (ts.map Tm.av) false]),(30,.map ((rn++[y.p]).map AV.str) (vs++[.own 3 [y.av]])),(32,.var [.own 2 [],.nilmap,.map 30,.own 3 []])]⟩:=by
 have h:Rz 153 (regOf Tryz.f18 39) ⟨[(3,.tptr [.str p,.seq (ts.map Tm.av) false]),(4,.elt 4 0 0),(8,.elt 8 0 0),(9,.elt 32 0 0),(11,.elt 11 0 0),(33,.seq (rules.map Ru.av) false),(34,.int .i64 ((rules.map Ru.av).length:Nat)),(35,.int .i64 (i:Int))],[(4,.var [.nils,.str ⟨#[]⟩,.nils,.nils]),(8,.var [.str p,.seq (ts.map Tm.av) false]),(30,.map (rn.map AV.str) vs),(32,.var [.own 2 [],.nilmap,.map 30,.own 3 []]),(11,.var [.str y.p,.seq (y.hd.map Ar.av) false,.seq (y.bd.map Li.av) false])]⟩ .normal ⟨[(3,.tptr [.str p,.seq (ts.map Tm.av) false]),(4,.elt 4 0 0),(8,.elt 8 0 0),(9,.elt 32 0 0),(11,.elt 11 0 0),(33,.seq (rules.map Ru.av) false),(34,.int .i64 ((rules.map Ru.av).length:Nat)),(35,.int .i64 (i:Int)),(39,.elt 32 0 0),(40,.elt 32 0 0),(41,.elt 32 0 2),(42,.map 30),(43,.elt 11 0 0),(44,.str y.p),(45,.elt 32 0 0),(46,.elt 32 0 0),(47,.elt 32 0 2),(48,.map 30),(49,.elt 11 0 0),(50,.str y.p),(51,.nils),(52,.agg [.str y.p,.seq (y.hd.map Ar.av) false,.seq (y.bd.map Li.av) false]),(53,.row 53 0 1),(54,.row 54 0 (0+[AV.agg [.str y.p,.seq (y.hd.map Ar.av) false,.seq (y.bd.map Li.av) false]].length))],[(4,.var [.nils,.str ⟨#[]⟩,.nils,.nils]),(8,.var [.str p,.seq (ts.map Tm.av) false]),(30,.map (rn.map AV.str++[.str y.p]) (vs++[.row 54 0 (0+[AV.agg [.str y.p,.seq (y.hd.map Ar.av) false,.seq (y.bd.map Li.av) false]].length)])),(32,.var [.own 2 [],.nilmap,.map 30,.own 3 []]),(11,.var [.str y.p,.seq (y.hd.map Ar.av) false,.seq (y.bd.map Li.av) false]),(53,.row 3 [.agg [.str y.p,.seq (y.hd.map Ar.av) false,.seq (y.bd.map Li.av) false]]),(54,.row 3 [.agg [.str y.p,.seq (y.hd.map Ar.av) false,.seq (y.bd.map Li.av) false]])]⟩:=
  ev18 (base:=0) (sc:=[.is false,.is true,.is false]) [findA true (.str y.p) (rn.map AV.str) 0=some none,1≤[AV.agg [.str y.p,.seq (y.hd.map Ar.av) false,.seq (y.bd.map Li.av) false]].length∧[AV.agg [.str y.p,.seq (y.hd.map Ar.av) false,.seq (y.bd.map Li.av) false]]≠[]∧(∀e,e∈[AV.agg [.str y.p,.seq (y.hd.map Ar.av) false,.seq (y.bd.map Li.av) false]]→okE 3 e)∧(∀e,e∈([]:List AV)→okE 3 e)∧((0+[AV.agg [.str y.p,.seq (y.hd.map Ar.av) false,.seq (y.bd.map Li.av) false]].length:Nat):Int)*64≤140737488355328∧0+[AV.agg [.str y.p,.seq (y.hd.map Ar.av) false,.seq (y.bd.map Li.av) false]].length≤9223372036854775807,findA true (.str y.p) (rn.map AV.str) 0=some none]
   (by kernel_rfl) ⟨hf,⟨by simp,by simp,ok_rus [y],by simp,by simp,by simp⟩,hf,trivial⟩
 have h2:=h.post (le_close (n:=153) (st:=⟨[(3,.tptr [.str p,.seq (ts.map Tm.av) false]),(4,.elt 4 0 0),(8,.elt 8 0 0),(9,.elt 32 0 0),(11,.elt 11 0 0),(33,.seq (rules.map Ru.av) false),(34,.int .i64 ((rules.map Ru.av).length:Nat)),(35,.int .i64 (i:Int)),(39,.elt 32 0 0),(40,.elt 32 0 0),(41,.elt 32 0 2),(42,.map 30),(43,.elt 11 0 0),(44,.str y.p),(45,.elt 32 0 0),(46,.elt 32 0 0),(47,.elt 32 0 2),(48,.map 30),(49,.elt 11 0 0),(50,.str y.p),(51,.nils),(52,.agg [.str y.p,.seq (y.hd.map Ar.av) false,.seq (y.bd.map Li.av) false]),(53,.row 53 0 1),(54,.row 54 0 (0+[AV.agg [.str y.p,.seq (y.hd.map Ar.av) false,.seq (y.bd.map Li.av) false]].length))],[(4,.var [.nils,.str ⟨#[]⟩,.nils,.nils]),(8,.var [.str p,.seq (ts.map Tm.av) false]),(30,.map (rn.map AV.str++[.str y.p]) (vs++[.row 54 0 (0+[AV.agg [.str y.p,.seq (y.hd.map Ar.av) false,.seq (y.bd.map Li.av) false]].length)])),(32,.var [.own 2 [],.nilmap,.map 30,.own 3 []]),(11,.var [.str y.p,.seq (y.hd.map Ar.av) false,.seq (y.bd.map Li.av) false]),(53,.row 3 [.agg [.str y.p,.seq (y.hd.map Ar.av) false,.seq (y.bd.map Li.av) false]]),(54,.row 3 [.agg [.str y.p,.seq (y.hd.map Ar.av) false,.seq (y.bd.map Li.av) false]])]⟩) 30 vs.length 54 (o:= .map (rn.map AV.str++[.str y.p]) (vs++[.row 54 0 (0+[AV.agg [.str y.p,.seq (y.hd.map Ar.av) false,.seq (y.bd.map Li.av) false]].length)])) (sz:=3) (m:=0+[AV.agg [.str y.p,.seq (y.hd.map Ar.av) false,.seq (y.bd.map Li.av) false]].length) (es:=[.agg [.str y.p,.seq (y.hd.map Ar.av) false,.seq (y.bd.map Li.av) false]]) rfl (by simp [Ob.at]) rfl (by simp) (by simp) (noIdsL_rus' [y]) (by simp [mid]))
 have e:(Ob.map (rn.map AV.str++[.str y.p]) (vs++[.row 54 0 (0+[AV.agg [.str y.p,.seq (y.hd.map Ar.av) false,.seq (y.bd.map Li.av) false]].length)])).set vs.length (.own 3 ([AV.agg [.str y.p,.seq (y.hd.map Ar.av) false,.seq (y.bd.map Li.av) false]].take (0+[AV.agg [.str y.p,.seq (y.hd.map Ar.av) false,.seq (y.bd.map Li.av) false]].length)))= .map ((rn++[y.p]).map AV.str) (vs++[.own 3 [y.av]]):=by
  show Ob.map _ _=_
  rw [set_lastQ,List.map_append];rfl
 rw [e] at h2
 refine h2.keepR [3,4,8,9,33,34,35] [K1 4,K1 8,K1 30,K0 32] (cs:=[noIdsL [.nils,.str ⟨#[]⟩,.nils,.nils]=true,noIdsL [.str p,.seq (ts.map Tm.av) false]=true,noIdsL ((rn++[y.p]).map AV.str)=true∧noIdsL (vs++[.own 3 [y.av]])=true]) rfl ⟨rfl,rfl,⟨noIdsL_strs _,by rw [noIdsL_app,hv];rfl⟩,trivial⟩
theorem m18o (rules:List Ru) (p:ByteArray) (ts:List Tm) (rn:List ByteArray) (vs:List AV) (hv:noIdsL vs=true) (y:Ru) (i j:Nat) (l:List Ru) (hl:l.length<1000000000) (hne:l≠[]) (hf:findA true (.str y.p) (rn.map AV.str) 0=some (some j)) (hrj:rn[j]? =some y.p) (hvj:vs[j]? =some (.own 3 (l.map Ru.av))):Rz 153 (regOf Tryz.f18 39) ⟨[(3,.tptr [.str p,.seq (ts.map Tm.av) false]),(4,.elt 4 0 0),(8,.elt 8 0 0),(9,.elt 32 0 0),(11,.elt 11 0 0),(33,.seq (rules.map Ru.av) false),(34,.int .i64 ((rules.map Ru.av).length:Nat)),(35,.int .i64 (i:Int))],[(4,.var [.nils,.str ⟨#[]⟩,.nils,.nils]),(8,.var [.str p,.seq (ts.map Tm.av) false]),(30,.map (rn.map AV.str) vs),(32,.var [.own 2 [],.nilmap,.map 30,.own 3 []]),(11,.var [.str y.p,.seq (y.hd.map Ar.av) false,.seq (y.bd.map Li.av) false])]⟩ .normal ⟨[(3,.tptr [.str p,.seq (ts.map Tm.av) false]),(4,.elt 4 0 0),(8,.elt 8 0 0),(9,.elt 32 0 0),(33,.seq (rules.map Ru.av) false),(34,.int .i64 ((rules.map Ru.av).length:Nat)),(35,.int .i64 (i:Int))],[(4,.var [.nils,.str ⟨#[]⟩,.nils,.nils]),(8,.var [.str p,.seq (ts.map Tm.av) false]),(30,.map (rn.map AV.str) (vs.set j (.own 3 ((l++[y]).map Ru.av)))),(32,.var [.own 2 [],.nilmap,.map 30,.own 3 []])]⟩:=by
 have hj:j<vs.length:=(List.getElem?_eq_some_iff.1 hvj).1
 have h:Rz 153 (regOf Tryz.f18 39) ⟨[(3,.tptr [.str p,.seq (ts.map Tm.av) false]),(4,.elt 4 0 0),(8,.elt 8 0 0),(9,.elt 32 0 0),(11,.elt 11 0 0),(33,.seq (rules.map Ru.av) false),(34,.int .i64 ((rules.map Ru.av).length:Nat)),(35,.int .i64 (i:Int))],[(4,.var [.nils,.str ⟨#[]⟩,.nils,.nils]),(8,.var [.str p,.seq (ts.map Tm.av) false]),(30,.map (rn.map AV.str) (vs.set j (.row 70 0 (l.map Ru.av).length))),(32,.var [.own 2 [],.nilmap,.map 30,.own 3 []]),(11,.var [.str y.p,.seq (y.hd.map Ar.av) false,.seq (y.bd.map Li.av) false]),(70,.row 3 (l.map Ru.av))]⟩ .normal ⟨[(3,.tptr [.str p,.seq (ts.map Tm.av) false]),(4,.elt 4 0 0),(8,.elt 8 0 0),(9,.elt 32 0 0),(11,.elt 11 0 0),(33,.seq (rules.map Ru.av) false),(34,.int .i64 ((rules.map Ru.av).length:Nat)),(35,.int .i64 (i:Int)),(39,.elt 32 0 0),(40,.elt 32 0 0),(41,.elt 32 0 2),(42,.map 30),(43,.elt 11 0 0),(44,.str y.p),(45,.elt 32 0 0),(46,.elt 32 0 0),(47,.elt 32 0 2),(48,.map 30),(49,.elt 11 0 0),(50,.str y.p),(51,.row 70 0 (l.map Ru.av).length),(52,.agg [.str y.p,.seq (y.hd.map Ar.av) false,.seq (y.bd.map Li.av) false]),(53,.row 53 0 1),(54,.row 54 0 ((l.map Ru.av).length+[AV.agg [.str y.p,.seq (y.hd.map Ar.av) false,.seq (y.bd.map Li.av) false]].length))],[(4,.var [.nils,.str ⟨#[]⟩,.nils,.nils]),(8,.var [.str p,.seq (ts.map Tm.av) false]),(30,.map ((rn.map AV.str).set (Int.toNat (j:Int)) (.str y.p)) ((vs.set j (.row 70 0 (l.map Ru.av).length)).set (Int.toNat (j:Int)) (.row 54 0 ((l.map Ru.av).length+[AV.agg [.str y.p,.seq (y.hd.map Ar.av) false,.seq (y.bd.map Li.av) false]].length)))),(32,.var [.own 2 [],.nilmap,.map 30,.own 3 []]),(11,.var [.str y.p,.seq (y.hd.map Ar.av) false,.seq (y.bd.map Li.av) false]),(70,.dead),(53,.row 3 [.agg [.str y.p,.seq (y.hd.map Ar.av) false,.seq (y.bd.map Li.av) false]]),(54,.row 3 (l.map Ru.av++[.agg [.str y.p,.seq (y.hd.map Ar.av) false,.seq (y.bd.map Li.av) false]]))]⟩:=
  ev18 (base:=0) (sc:=[.elt (.row 70 0 (l.map Ru.av).length),.is true,.elt (.int .i64 j)]) [∃j',findA true (.str y.p) (rn.map AV.str) 0=some (some j')∧(vs.set j (.row 70 0 (l.map Ru.av).length))[j']? =some (.row 70 0 (l.map Ru.av).length),1≤[AV.agg [.str y.p,.seq (y.hd.map Ar.av) false,.seq (y.bd.map Li.av) false]].length∧(0:Nat)=0∧(l.map Ru.av).length=(l.map Ru.av).length∧(∀e,e∈[AV.agg [.str y.p,.seq (y.hd.map Ar.av) false,.seq (y.bd.map Li.av) false]]→okE 3 e)∧(∀e,e∈l.map Ru.av→okE 3 e)∧((((l.map Ru.av).length+[AV.agg [.str y.p,.seq (y.hd.map Ar.av) false,.seq (y.bd.map Li.av) false]].length):Nat):Int)*64≤140737488355328∧((l.map Ru.av).length+[AV.agg [.str y.p,.seq (y.hd.map Ar.av) false,.seq (y.bd.map Li.av) false]].length)≤9223372036854775807,findA true (.str y.p) (rn.map AV.str) 0=some (some (Int.toNat (j:Int)))]
   (by kernel_rfl) ⟨⟨j,hf,by rw [List.getElem?_set_self hj]⟩,⟨by simp,rfl,rfl,ok_rus [y],ok_rus l,by simp;omega,by simp;omega⟩,by rw [Int.toNat_natCast];exact hf,trivial⟩
 have h0:=h.pre (le_open (n:=153) (st:=⟨[(3,.tptr [.str p,.seq (ts.map Tm.av) false]),(4,.elt 4 0 0),(8,.elt 8 0 0),(9,.elt 32 0 0),(11,.elt 11 0 0),(33,.seq (rules.map Ru.av) false),(34,.int .i64 ((rules.map Ru.av).length:Nat)),(35,.int .i64 (i:Int))],[(4,.var [.nils,.str ⟨#[]⟩,.nils,.nils]),(8,.var [.str p,.seq (ts.map Tm.av) false]),(30,.map (rn.map AV.str) vs),(32,.var [.own 2 [],.nilmap,.map 30,.own 3 []]),(11,.var [.str y.p,.seq (y.hd.map Ar.av) false,.seq (y.bd.map Li.av) false])]⟩) 30 j 70 (o:= .map (rn.map AV.str) vs) (sz:=3) (es:=l.map Ru.av) rfl hvj (by simpa using hne) rfl (by simp [mid]))
 have hat:(Ob.map ((rn.map AV.str).set (Int.toNat (j:Int)) (.str y.p)) ((vs.set j (.row 70 0 (l.map Ru.av).length)).set (Int.toNat (j:Int)) (.row 54 0 ((l.map Ru.av).length+[AV.agg [.str y.p,.seq (y.hd.map Ar.av) false,.seq (y.bd.map Li.av) false]].length)))).at j=some (.row 54 0 ((l.map Ru.av).length+[AV.agg [.str y.p,.seq (y.hd.map Ar.av) false,.seq (y.bd.map Li.av) false]].length)):=by
  show ((vs.set j (.row 70 0 (l.map Ru.av).length)).set (Int.toNat (j:Int)) (.row 54 0 ((l.map Ru.av).length+[AV.agg [.str y.p,.seq (y.hd.map Ar.av) false,.seq (y.bd.map Li.av) false]].length)))[j]? =_
  rw [Int.toNat_natCast,List.getElem?_set_self (by rw [List.length_set];exact hj)]
 have h2:=h0.post (le_close (n:=153) (st:=⟨[(3,.tptr [.str p,.seq (ts.map Tm.av) false]),(4,.elt 4 0 0),(8,.elt 8 0 0),(9,.elt 32 0 0),(11,.elt 11 0 0),(33,.seq (rules.map Ru.av) false),(34,.int .i64 ((rules.map Ru.av).length:Nat)),(35,.int .i64 (i:Int)),(39,.elt 32 0 0),(40,.elt 32 0 0),(41,.elt 32 0 2),(42,.map 30),(43,.elt 11 0 0),(44,.str y.p),(45,.elt 32 0 0),(46,.elt 32 0 0),(47,.elt 32 0 2),(48,.map 30),(49,.elt 11 0 0),(50,.str y.p),(51,.row 70 0 (l.map Ru.av).length),(52,.agg [.str y.p,.seq (y.hd.map Ar.av) false,.seq (y.bd.map Li.av) false]),(53,.row 53 0 1),(54,.row 54 0 ((l.map Ru.av).length+[AV.agg [.str y.p,.seq (y.hd.map Ar.av) false,.seq (y.bd.map Li.av) false]].length))],[(4,.var [.nils,.str ⟨#[]⟩,.nils,.nils]),(8,.var [.str p,.seq (ts.map Tm.av) false]),(30,.map ((rn.map AV.str).set (Int.toNat (j:Int)) (.str y.p)) ((vs.set j (.row 70 0 (l.map Ru.av).length)).set (Int.toNat (j:Int)) (.row 54 0 ((l.map Ru.av).length+[AV.agg [.str y.p,.seq (y.hd.map Ar.av) false,.seq (y.bd.map Li.av) false]].length)))),(32,.var [.own 2 [],.nilmap,.map 30,.own 3 []]),(11,.var [.str y.p,.seq (y.hd.map Ar.av) false,.seq (y.bd.map Li.av) false]),(70,.dead),(53,.row 3 [.agg [.str y.p,.seq (y.hd.map Ar.av) false,.seq (y.bd.map Li.av) false]]),(54,.row 3 (l.map Ru.av++[.agg [.str y.p,.seq (y.hd.map Ar.av) false,.seq (y.bd.map Li.av) false]]))]⟩) 30 j 54 (sz:=3) (m:=((l.map Ru.av).length+[AV.agg [.str y.p,.seq (y.hd.map Ar.av) false,.seq (y.bd.map Li.av) false]].length)) (es:=l.map Ru.av++[AV.agg [.str y.p,.seq (y.hd.map Ar.av) false,.seq (y.bd.map Li.av) false]]) rfl hat rfl (by simp) (by simp) (by
  rw [List.take_of_length_le (by simp),noIdsL_app,noIdsL_rus'];exact noIdsL_rus' [y]) (by simp [mid]))
 have e:(Ob.map ((rn.map AV.str).set (Int.toNat (j:Int)) (.str y.p)) ((vs.set j (.row 70 0 (l.map Ru.av).length)).set (Int.toNat (j:Int)) (.row 54 0 ((l.map Ru.av).length+[AV.agg [.str y.p,.seq (y.hd.map Ar.av) false,.seq (y.bd.map Li.av) false]].length)))).set j (.own 3 ((l.map Ru.av++[AV.agg [.str y.p,.seq (y.hd.map Ar.av) false,.seq (y.bd.map Li.av) false]]).take ((l.map Ru.av).length+[AV.agg [.str y.p,.seq (y.hd.map Ar.av) false,.seq (y.bd.map Li.av) false]].length)))= .map (rn.map AV.str) (vs.set j (.own 3 ((l++[y]).map Ru.av))):=by
  show Ob.map _ ((((vs.set j (.row 70 0 (l.map Ru.av).length)).set (Int.toNat (j:Int)) (.row 54 0 ((l.map Ru.av).length+[AV.agg [.str y.p,.seq (y.hd.map Ar.av) false,.seq (y.bd.map Li.av) false]].length)))).set j _)=_
  rw [Int.toNat_natCast,List.set_set,List.set_set,List.take_of_length_le (by simp),List.map_append,set_self (l:=rn.map AV.str) (by rw [List.getElem?_map,hrj];rfl)]
  rfl
 rw [e] at h2
 exact h2.keepR [3,4,8,9,33,34,35] [K1 4,K1 8,K1 30,K0 32] (cs:=[noIdsL [.nils,.str ⟨#[]⟩,.nils,.nils]=true,noIdsL [.str p,.seq (ts.map Tm.av) false]=true,noIdsL (rn.map AV.str)=true∧noIdsL (vs.set j (.own 3 ((l++[y]).map Ru.av)))=true]) rfl ⟨rfl,rfl,⟨noIdsL_strs _,noIdsL_set hv rfl⟩,trivial⟩
abbrev Z2m0:Nat×AV:=(3,.tptr [.str p,.seq (ts.map Tm.av) false])
abbrev Z2m1:Nat×AV:=(4,.elt 4 0 0)
abbrev Z2m2:Nat×AV:=(8,.elt 8 0 0)
abbrev Z2m3:Nat×AV:=(9,.elt 32 0 0)
abbrev Z2m4:Nat×AV:=(33,.seq (rules.map Ru.av) false)
abbrev Z2m5:Nat×AV:=(34,.int .i64 ((rules.map Ru.av).length:Nat))
abbrev Z2m6 (i:Nat):Nat×AV:=(35,.int .i64 (i:Int))
abbrev Z2m7:Nat×Ob:=(4,.var [.nils,.str ⟨#[]⟩,.nils,.nils])
abbrev Z2m8:Nat×Ob:=(8,.var [.str p,.seq (ts.map Tm.av) false])
abbrev Z2m9:Nat×Ob:=(30,.map (rn.map AV.str) vs)
abbrev Z2ma:Nat×Ob:=(32,.var [.own 2 [],.nilmap,.map 30,.own 3 []])
abbrev Z2mb:Nat×Ob:=(4,.var [.nils,.str (ByteArray.mk #[]),.nils,.nils])
abbrev Z2mh (i:Nat):List (Nat×AV):=[Z2m0 p ts,Z2m1,Z2m2,Z2m3,Z2m4 rules,Z2m5 rules,(35,.int .i64 ((i+1:Nat):Int))]
theorem t18m (rn2:List ByteArray) (vs vs2:List AV) (hv:noIdsL vs=true) (hv2:noIdsL vs2=true) (y:Ru) (i:Nat) (hi:i<rules.length) (hsm:rules.length≤2000000) (hx:0≤(i:Int)∧(rules.map Ru.av)[Int.toNat (i:Int)]? =some y.av) (pr18_39p:Rz 153 (regOf Tryz.f18 39) ⟨[Z2m0 p ts,Z2m1,Z2m2,Z2m3,(11,.elt 11 0 0),Z2m4 rules,Z2m5 rules,Z2m6 i],[Z2m7,Z2m8 p ts,Z2m9 rn vs,Z2ma,(11,.var [.str y.p,.seq (y.hd.map Ar.av) false,.seq (y.bd.map Li.av) false])]⟩ .normal ⟨[Z2m0 p ts,Z2m1,Z2m2,Z2m3,Z2m4 rules,Z2m5 rules,Z2m6 i],[Z2m7,Z2m8 p ts,(30,.map (rn2.map AV.str) vs2),Z2ma]⟩):EN 153 (loopOf Tryz.f18 0) ⟨[Z2m0 p ts,Z2m1,Z2m2,Z2m3,Z2m4 rules,Z2m5 rules,Z2m6 i],[Z2m7,Z2m8 p ts,Z2m9 rn vs,Z2ma]⟩ ⟨(Z2mh rules p ts i),[Z2m7,Z2m8 p ts,(30,.map (rn2.map AV.str) vs2),Z2ma]⟩:=by
 have hl0:=pr18_39p
 exact gE ⟨rfl,rfl⟩ 0 [.is true,.elt (Ru.av y),.cut [3,4,8,9,11,33,34,35] [K1 4,K1 8,K1 30,K0 32,K1 11],.tell 39 .normal [Z2m0 p ts,Z2m1,Z2m2,Z2m3,Z2m4 rules,(34,.int .i64 (↑(rules.map Ru.av).length:Int)),Z2m6 i] [Z2mb,Z2m8 p ts,(30,.map (rn2.map AV.str) vs2),Z2ma]] [3,4,8,9,33,34,35] [K1 4,K1 8,K1 30,K0 32] (aC11 (d1 Ru.av rules i (by omega)) hx rT rT (show noIdsL (rn.map AV.str)=true∧noIdsL vs=true from by simp;omega) rT hl0 (w1 i (by omega)) rT rT (show noIdsL (rn2.map AV.str)=true∧noIdsL vs2=true from by simp;omega))
theorem zsrv5t (rules:List Ru):decide ((↑rules.length:Int)<(↑(rules.map Ru.av).length:Int))=false:=by simp
abbrev Z2md:St:=⟨[Z2m0 p ts,Z2m1,Z2m2,Z2m3],[Z2m7,Z2m8 p ts,Z2m9 rn vs,Z2ma]⟩
theorem e18m (hv:noIdsL vs=true):En 153 (loopOf Tryz.f18 0) ⟨[Z2m0 p ts,Z2m1,Z2m2,Z2m3,Z2m4 rules,Z2m5 rules,(35,.int .i64 ((rules.length:Nat):Int))],[Z2m7,Z2m8 p ts,Z2m9 rn vs,Z2ma]⟩ (fun e t=>e= .exit 0∧t=(Z2md p ts rn vs)):=by
 exact gE ⟨rfl,rfl⟩ 0 [.is false] [3,4,8,9] [K1 4,K1 8,K1 30,K0 32] (aC4 (zsrv5t rules) rT rT (show noIdsL (rn.map AV.str)=true∧noIdsL vs=true from by simp;omega))
abbrev Z2me:St:=⟨[Z2m0 p ts,Z2m1,Z2m2,Z2m3,Z2m4 rules,Z2m5 rules,(35,.int .i64 0)],[Z2m7,Z2m8 p ts,(30,.map [] []),Z2ma]⟩
theorem w18e (hv:noIdsL vs=true) (l18_0q:Lo 153 (loopOf Tryz.f18 0) (Z2me rules p ts) (.exit 0) (Z2md p ts rn vs)):EN 153 (partC 4 (bodyOf Tryz.f18)) ⟨[(0,.seq (rules.map Ru.av) false),Z2m0 p ts,Z2m1,Z2m2,Z2m3],[Z2m7,Z2m8 p ts,(30,.map [] []),Z2ma]⟩ (Z2md p ts rn vs):=by
 have hl0:=l18_0q
 exact gE ⟨rfl,rfl⟩ 0 [.cut [3,4,8,9,33,34,35] [K1 4,K1 8,K1 30,K0 32],.sum (.exit 0) [Z2m0 p ts,Z2m1,Z2m2,Z2m3] [Z2mb,Z2m8 p ts,Z2m9 rn vs,Z2ma]] [3,4,8,9] [K1 4,K1 8,K1 30,K0 32] (aC7 rT rT rTT hl0 rT rT (show noIdsL (rn.map AV.str)=true∧noIdsL vs=true from by simp;omega))
def gO (R:List Ru) (rn:List ByteArray):List AV:=rn.map fun u=> .own 3 ((rulesOf R u).map Ru.av)
theorem noIds_gO (R:List Ru) (rn:List ByteArray):noIdsL (gO R rn)=true:=noIdsL_of (fun u=>AV.own 3 ((rulesOf R u).map Ru.av)) (fun _=>rfl) rn
theorem rulesOf_app (R:List Ru) (y:Ru) (u:ByteArray):rulesOf (R++[y]) u=rulesOf R u++(if y.p=u then [y] else []):=by
 unfold rulesOf
 rw [List.filter_append]
 by_cases h:y.p=u<;>simp [h]
theorem rulesOf_nil {R:List Ru} {rn:List ByteArray} (h:RN R rn) {u:ByteArray} (hu:u∉rn):rulesOf R u=[]:=by
 cases hr:rulesOf R u with
 |nil=>rfl
 |cons a l=>
  have:a∈rulesOf R u:=by rw [hr];simp
  exact absurd ((h u).2 ⟨a,(mem_rulesOf.1 this).1,(mem_rulesOf.1 this).2⟩) hu
theorem gO_new {R:List Ru} {rn:List ByteArray} {y:Ru} (h:RN R rn) (hu:y.p∉rn):gO (R++[y]) (rn++[y.p])=gO R rn++[.own 3 [y.av]]:=by
 unfold gO
 rw [List.map_append]
 congr 1
 ·refine List.map_congr_left fun u hm=> ?_
  rw [rulesOf_app,if_neg (fun e=>hu (by rw [e];exact hm)),List.append_nil]
 ·simp only [List.map_cons,List.map_nil]
  rw [rulesOf_app,if_pos rfl,rulesOf_nil h hu];rfl
theorem nodup_get {α:Type}:∀{l:List α},l.Nodup→∀{i j:Nat} {x:α},l[i]? =some x→l[j]? =some x→i=j
 |a::l,hd,0,0,x,_,_=>rfl
 |a::l,hd,0,j+1,x,h1,h2=>by
  simp at h1 h2;subst h1
  exact absurd (List.mem_of_getElem? h2) (List.nodup_cons.1 hd).1
 |a::l,hd,i+1,0,x,h1,h2=>by
  simp at h1 h2;subst h2
  exact absurd (List.mem_of_getElem? h1) (List.nodup_cons.1 hd).1
 |a::l,hd,i+1,j+1,x,h1,h2=>by
  simp at h1 h2
  rw [nodup_get (List.nodup_cons.1 hd).2 h1 h2]
theorem gO_old {R:List Ru} {rn:List ByteArray} {y:Ru} {j:Nat} (hn:rn.Nodup) (hj:rn[j]? =some y.p):gO (R++[y]) rn=(gO R rn).set j (.own 3 ((rulesOf R y.p++[y]).map Ru.av)):=by
 apply List.ext_getElem?
 intro k
 by_cases e:j=k
 ·subst e
  have hlt:j<(gO R rn).length:=by unfold gO;rw [List.length_map];exact (List.getElem?_eq_some_iff.1 hj).1
  rw [List.getElem?_set_self hlt]
  unfold gO
  rw [List.getElem?_map,hj]
  simp only [Option.map_some]
  rw [rulesOf_app,if_pos rfl]
 ·rw [List.getElem?_set_ne e]
  unfold gO
  rw [List.getElem?_map,List.getElem?_map]
  cases hk:rn[k]? with
  |none=>rfl
  |some u=>
   simp only [Option.map_some]
   have:y.p≠u:=by
    rintro rfl
    exact e (nodup_get hn hj hk)
   rw [rulesOf_app,if_neg this,List.append_nil]
abbrev Z2mc:Nat×Ob:=(30,.map (rn.map AV.str) (gO rules rn))
abbrev Z2mf:St:=⟨[Z2m0 p ts,Z2m1,Z2m2,Z2m3],[Z2m7,Z2m8 p ts,Z2mc rules rn,Z2ma]⟩
abbrev Z2mg (i:Nat):St:=⟨[Z2m0 p ts,Z2m1,Z2m2,Z2m3,Z2m4 rules,Z2m5 rules,Z2m6 i],[Z2m7,Z2m8 p ts,(30,.map (rn.map AV.str) (gO (rules.take i) rn)),Z2ma]⟩
theorem l18_0 (hsm:rules.length≤2000000):∃rn:List ByteArray,rn.Nodup∧RN rules rn∧Lo 153 (loopOf Tryz.f18 0) (Z2me rules p ts) (.exit 0) (Z2mf rules p ts rn):=by
 have T:∀(i:Nat) (rn:List ByteArray),i<rules.length→(rn.Nodup∧RN (rules.take i) rn)→En 153 (loopOf Tryz.f18 0) (Z2mg rules p ts rn i) (fun e s=>e= .normal∧∃rn:List ByteArray,(rn.Nodup∧RN (rules.take (i+1)) rn)∧s=⟨(Z2mh rules p ts i),[Z2m7,Z2m8 p ts,(30,.map (rn.map AV.str) (gO (rules.take (i+1)) rn)),Z2ma]⟩):=by
  intro i rn hi ⟨hn,hr⟩
  have hy:rules[i]? =some rules[i]:=List.getElem?_eq_getElem hi
  have htk:rules.take (i+1)=rules.take i++[rules[i]]:=List.take_succ_eq_append_getElem hi
  rw [htk]
  generalize rules[i]=y at hy
  have hx:0≤(i:Int)∧(rules.map Ru.av)[Int.toNat (i:Int)]? =some (Ru.av y):=⟨by omega,get_of Ru.av hy⟩
  by_cases hm:y.p∈rn
  ·obtain ⟨j,hf,hj⟩:=findA_some (i:=0) hm
   rw [Nat.zero_add] at hf
   obtain ⟨r0,q1,q2⟩:=(hr y.p).1 hm
   have hne:rulesOf (rules.take i) y.p≠[]:=List.ne_nil_of_mem (mem_rulesOf.2 ⟨q1,q2⟩)
   have hlen:(rulesOf (rules.take i) y.p).length<1000000000:=by
    have:(rulesOf (rules.take i) y.p).length≤(rules.take i).length:=List.length_filter_le ..
    rw [List.length_take] at this
    omega
   have hvj:(gO (rules.take i) rn)[j]? =some (.own 3 ((rulesOf (rules.take i) y.p).map Ru.av)):=by unfold gO;rw [List.getElem?_map,hj];rfl
   have pr:=m18o rules p ts rn (gO (rules.take i) rn) (noIds_gO _ _) y i j (rulesOf (rules.take i) y.p) hlen hne hf hj hvj
   rw [←gO_old hn hj] at pr
   obtain ⟨e,t,⟨rfl,rfl⟩,h⟩:=t18m rules p ts rn rn (gO (rules.take i) rn) (gO (rules.take i++[y]) rn) (noIds_gO _ _) (noIds_gO _ _) y i hi hsm hx pr
   exact ⟨_,_,⟨rfl,rn,⟨hn,fun u=>by
    rw [hr]
    constructor
    ·rintro ⟨r,h1,h2⟩;exact ⟨r,by simp [h1],h2⟩
    ·rintro ⟨r,h1,h2⟩
     rcases List.mem_append.1 h1 with h1|h1
     ·exact ⟨r,h1,h2⟩
     ·rw [List.mem_singleton] at h1;subst h1;subst h2;exact ⟨r0,q1,q2⟩⟩,rfl⟩,h⟩
  ·have pr:=m18n rules p ts rn (gO (rules.take i) rn) (noIds_gO _ _) y i (findA_none hm)
   rw [←gO_new hr hm] at pr
   obtain ⟨e,t,⟨rfl,rfl⟩,h⟩:=t18m rules p ts rn (rn++[y.p]) (gO (rules.take i) rn) (gO (rules.take i++[y]) (rn++[y.p])) (noIds_gO _ _) (noIds_gO _ _) y i hi hsm hx pr
   refine ⟨_,_,⟨rfl,rn++[y.p],⟨List.nodup_append.2 ⟨hn,by simp,fun a ha b hb=> ?_⟩,fun u=> ?_⟩,rfl⟩,h⟩
   ·rw [List.mem_singleton] at hb;subst hb;rintro rfl;exact hm ha
   ·rw [List.mem_append,List.mem_singleton,hr]
    constructor
    ·rintro (⟨r,h1,h2⟩|h1)
     ·exact ⟨r,by simp [h1],h2⟩
     ·exact ⟨y,by simp,h1.symm⟩
    ·rintro ⟨r,h1,h2⟩
     rcases List.mem_append.1 h1 with h1|h1
     ·exact .inl ⟨r,h1,h2⟩
     ·rw [List.mem_singleton] at h1;subst h1;exact .inr h2.symm
 obtain ⟨rn,⟨h1,h2⟩,h⟩:=inv_loop0 (P:=Tryz.prog) (n:=153) (c:=loopOf Tryz.f18 0) (N:=rules.length) (k:=0) (γ:=List ByteArray) (fun i rn=>(Z2mg rules p ts rn i)) (fun rn=>⟨[Z2m0 p ts,Z2m1,Z2m2,Z2m3],[Z2m7,Z2m8 p ts,(30,.map (rn.map AV.str) (gO (rules.take rules.length) rn)),Z2ma]⟩)
  (fun i rn=>rn.Nodup∧RN (rules.take i) rn) T (fun rn _=>by
   have:=e18m rules p ts rn (gO (rules.take rules.length) rn) (noIds_gO _ _)
   exact this) [] ⟨by simp,fun u=>by simp⟩
 rw [List.take_length] at h2 h
 exact ⟨rn,h1,h2,h⟩
theorem unown_gO:(gO rules rn).map unown=rvOf rules rn:=by simp [gO,rvOf,unown]
theorem noIds_rvOf:noIdsL (rvOf rules rn)=true:=noIdsL_of (fun u=>AV.seq ((rulesOf rules u).map Ru.av) false) (fun _=>rfl) rn
theorem seal18:Le 153 (Z2mf rules p ts rn) ⟨[Z2m0 p ts,Z2m1,Z2m2,Z2m3],[Z2m7,Z2m8 p ts,(32,.var [.own 2 [],.nilmap,.tmap (rn.map AV.str) (rvOf rules rn),.own 3 []])]⟩:=by
 have h:=le_seal (n:=153) (st:=(Z2mf rules p ts rn)) 30 rfl (by simp [mid]) rfl
 rw [unown_gO] at h
 refine h.trans (renSt_le (n:=153) (slots:=[3,4,8,9]) (tb:=[K1 4,K1 8,(30,.freeze),K0 32]) (cs:=[noIdsL [.nils,.str ⟨#[]⟩,.nils,.nils]=true,noIdsL [.str p,.seq (ts.map Tm.av) false]=true,noIdsL (rn.map AV.str)=true∧noIdsL (rvOf rules rn)=true]) rfl fun q hq=> ?_)
 simp only [List.mem_cons,List.not_mem_nil,or_false] at hq
 rcases hq with rfl|rfl|rfl
 ·rfl
 ·rfl
 ·exact ⟨noIdsL_strs rn,noIds_rvOf rules rn⟩
end
section
variable (L:List Ad) (p:ByteArray) (rn:List ByteArray) (rv:List AV) (out:List Ru) (nm:ByteArray) (ts:List Tm)
abbrev Z2n0:Nat×AV:=(3,.tptr [.str p,.seq (ts.map Tm.av) false])
abbrev Z2n1:Nat×AV:=(4,.elt 4 0 0)
abbrev Z2n2:Nat×AV:=(8,.elt 8 0 0)
abbrev Z2n3:Nat×AV:=(9,.elt 32 0 0)
abbrev Z2n4:Nat×Ob:=(4,.var [.nils,.str ⟨#[]⟩,.nils,.nils])
abbrev Z2n5:Nat×Ob:=(8,.var [.str p,.seq (ts.map Tm.av) false])
abbrev Z2n6:Nat×Ob:=(32,.var [.own 2 [],.nilmap,.tmap (rn.map AV.str) rv,.own 3 []])
abbrev Z2nk:St:=⟨[Z2n0 p ts,Z2n1,Z2n2,Z2n3],[Z2n4,Z2n5 p ts,Z2n6 rn rv]⟩
theorem b18n (rn:List ByteArray) (rv:List AV) (hf:findA true (.str p) (rn.map AV.str) 0=some none):En 153 (restC 5 (bodyOf Tryz.f18)) (Z2nk p rn rv ts) (fun e t=>e= .ret∧t=⟨[Z2n1,(5,.nils),(6,.int .i64 0)],[(4,.var [.nils,.str p,.seq (ts.map Tm.av) false,.nils])]⟩):=by
 exact gE ⟨rfl,rfl⟩ 0 [.is false,.is true] [4,5,6] [K1 4] (aC3 hf rT rT)
theorem w18f (rn:List ByteArray) (rv:List AV) (es:List AV) (he:decide (((es.length:Nat):Int)=0)=false) (hf:∃j,findA true (.str p) (rn.map AV.str) 0=some (some j)∧rv[j]? =some (.seq es false)):EN 153 (partC 5 (bodyOf Tryz.f18)) (Z2nk p rn rv ts) (Z2nk p rn rv ts):=by
 exact gE ⟨rfl,rfl⟩ 0 [.elt (.seq es false),.is false] [3,4,8,9] [K1 4,K1 8,K0 32] (aC4 hf he rT rT)
abbrev Z2n7:Nat×Ob:=(32,.var [.own 2 ([(p,patT ts [])].map adA),.map 33,.tmap (rn.map AV.str) rv,.own 3 (([]:List Ru).map Ru.av)])
abbrev Z2n8:Nat×Ob:=(33,.map ([(p,patT ts [])].map adA) (ixs [(p,patT ts [])].length))
abbrev Z2n9:Nat×Ob:=(8,.var [.str nm,.seq (ts.map Tm.av) false])
theorem w18g (rn:List ByteArray) (rv:List AV) (nm:ByteArray) (hts:ts.length<1000000000000) (k46:Sp 46 [.elt 32 0 0,.agg [.str p,.str (patT ts [])]] [Z2n6 rn rv] (.str nm) [Z2n7 p rn rv ts,Z2n8 p ts]):EN 153 (partC 6 (bodyOf Tryz.f18)) (Z2nk p rn rv ts) ⟨[Z2n1,Z2n2,Z2n3],[Z2n4,Z2n9 nm ts,Z2n7 p rn rv ts,Z2n8 p ts]⟩:=by
 have hs0:=k10a p ts (by assumption)
 have hs1:=k46
 exact gE ⟨rfl,rfl⟩ 0 [.call (.str (patT ts [])) [] [],.call (.str nm) [32] [(32,.var [.own 2 [.agg [.str p,.str (patT ts [])]],.map 33,.tmap (rn.map AV.str) rv,.own 3 []]),(33,.map [.agg [.str p,.str (patT ts [])]] [.int .i64 0])]] [4,8,9] [K1 4,K1 8,K0 32,K1 33] (aC5 hs0 hs1 rT rT rTT)
abbrev Z2na:Nat×Ob:=(32,.var [.own 2 (L.map adA),.map 33,.tmap (rn.map AV.str) rv,.own 3 (out.map Ru.av)])
abbrev Z2nb:Nat×Ob:=(33,.map (L.map adA) (ixs L.length))
abbrev Z2nc:Nat×AV:=(8,.tptr [.str nm,.seq (ts.map Tm.av) false])
theorem w18h:EN 153 (regOf Tryz.f18 12) ⟨[Z2n1,Z2n2,Z2n3],[Z2n4,Z2n9 nm ts,Z2na L rn rv out,Z2nb L]⟩ ⟨[Z2n1,Z2nc nm ts,Z2n3,(12,.int .i64 0)],[Z2n4,Z2na L rn rv out,Z2nb L]⟩:=by
 exact gE ⟨rfl,rfl⟩ 0 [] [4,8,9,12] [K1 4,(8,.freeze),K0 32,K1 33] (aC3 rT rT (zshd3q L))
abbrev Z2nd:Nat×AV:=(9,.tptr [.seq (L.map adA) false,.dead,.tmap (rn.map AV.str) rv,.seq (out.map Ru.av) false])
abbrev Z2ne:Nat×AV:=(131,.seq (out.map Ru.av) false)
abbrev Z2nf:Nat×AV:=(132,.int .i64 ((out.map Ru.av).length:Nat))
abbrev Z2ng:Nat×AV:=(6,.int .i64 70)
abbrev Z2nl (k:Nat):St:=⟨[Z2n1,Z2nc nm ts,Z2nd L rn rv out,Z2ne out,Z2nf out,(133,.int .i64 (k:Int))],[Z2n4]⟩
abbrev Z2nm:St:=⟨[Z2n1,(5,.nils),Z2ng],[Z2n4]⟩
theorem t18x (k:Nat) (hk:k<out.length) (hl:out.length<1000000000):En 153 (loopOf Tryz.f18 3) (Z2nl L rn rv out nm ts k) (fun e t=>(e= .ret∧t=Z2nm)∨(e= .normal∧t=⟨[Z2n1,Z2nc nm ts,Z2nd L rn rv out,Z2ne out,Z2nf out,(133,.int .i64 ((k+1:Nat):Int))],[Z2n4]⟩)):=by
 obtain ⟨x0,hm0,hx0⟩:=elt_of Ru.av (l:=out) (n:=(↑k:Int)) (by omega) (by omega)
 obtain ⟨r1,⟨hs2,hs2'⟩⟩:=k49p x0.1 x0.2 x0.3
 rcases bft (decide (r1=0)) with h3|h3
 ·exact gE (.inr ⟨rfl,rfl⟩) 0 [.is true,.elt (.agg [.str x0.1,.seq (List.map Ar.av x0.2) false,.seq (List.map Li.av x0.3) false]),.call (.int .i64 r1) [] [],.is false] [4,8,9,131,132,133] [K1 4] (aC6 (d1 Ru.av out k (by omega)) hx0 hs2 (nF h3) (w1 k (by omega)) rT)
 ·exact gE (.inl ⟨rfl,rfl⟩) 0 [.is true,.elt (.agg [.str x0.1,.seq (List.map Ar.av x0.2) false,.seq (List.map Li.av x0.3) false]),.call (.int .i64 r1) [] [],.is true] [4,5,6] [K1 4] (aC5 (d1 Ru.av out k (by omega)) hx0 hs2 (nT h3) rT)
abbrev Z2nn:St:=⟨[Z2n1,Z2nc nm ts,Z2nd L rn rv out],[Z2n4]⟩
theorem e18x:En 153 (loopOf Tryz.f18 3) ⟨[Z2n1,Z2nc nm ts,Z2nd L rn rv out,Z2ne out,Z2nf out,(133,.int .i64 ((out.length:Nat):Int))],[Z2n4]⟩ (fun e t=>e= .exit 6∧t=(Z2nn L rn rv out nm ts)):=by
 exact gE ⟨rfl,rfl⟩ 0 [.is false] [4,8,9] [K1 4] (aC2 (show decide ((↑out.length:Int)<(↑(out.map Ru.av).length:Int))=false from by simp) rT)
abbrev Z2nh:Nat×AV:=(133,.int .i64 0)
abbrev Z2no:St:=⟨[Z2n1,Z2nc nm ts,Z2nd L rn rv out,Z2ne out,Z2nf out,Z2nh],[Z2n4]⟩
theorem l18_3 (hl:out.length<1000000000):Lo 153 (loopOf Tryz.f18 3) (Z2no L rn rv out nm ts) .ret Z2nm∨Lo 153 (loopOf Tryz.f18 3) (Z2no L rn rv out nm ts) (.exit 6) (Z2nn L rn rv out nm ts):=by
 rcases range_ex (P:=Tryz.prog) (n:=153) (c:=loopOf Tryz.f18 3) (N:=out.length) (k:=6) (fun k=>⟨[Z2n1,Z2nc nm ts,Z2nd L rn rv out,Z2ne out,Z2nf out,(133,.int .i64 (k:Int))],[Z2n4]⟩) (Z2nn L rn rv out nm ts) (fun t=>t=Z2nm) (fun k hk=>t18x L rn rv out nm ts k hk hl) (e18x L rn rv out nm ts) with ⟨t,h,rfl⟩|h
 ·exact .inl h
 ·exact .inr h
abbrev Z2ni:Nat×Ob:=(4,.var [.nils,.str (ByteArray.mk #[]),.nils,.nils])
theorem b18s (l18_3q:Lo 153 (loopOf Tryz.f18 3) (Z2no L rn rv out nm ts) .ret Z2nm):En 153 (restC 8 (bodyOf Tryz.f18)) (Z2nn L rn rv out nm ts) (fun e t=>e= .ret∧t=Z2nm):=by
 have hl0:=l18_3q
 exact gE ⟨rfl,rfl⟩ 0 [.cut [4,8,9,131,132,133] [K1 4],.sum .ret [Z2n1,(5,.nils),Z2ng] [Z2ni]] [4,5,6] [K1 4] (aC3 rT hl0 rT)
theorem b18t (l18_3q:Lo 153 (loopOf Tryz.f18 3) (Z2no L rn rv out nm ts) (.exit 6) (Z2nn L rn rv out nm ts)):En 153 (restC 8 (bodyOf Tryz.f18)) (Z2nn L rn rv out nm ts) (fun e t=>e= .ret∧t=⟨[Z2n1,(5,.seq (L.map adA) false),(6,.int .i64 0)],[(4,.var [.seq (out.map Ru.av) false,.str nm,.seq (ts.map Tm.av) false,.nils])]⟩):=by
 have hl0:=l18_3q
 exact gE ⟨rfl,rfl⟩ 0 [.cut [4,8,9,131,132,133] [K1 4],.sum (.exit 6) [Z2n1,Z2nc nm ts,Z2nd L rn rv out] [Z2ni]] [4,5,6] [K1 4] (aC3 rT hl0 rT)
abbrev Z2nj:Nat×Ob:=(32,.var [.seq (L.map adA) false,.dead,.tmap (rn.map AV.str) rv,.seq (out.map Ru.av) false])
abbrev Z2np:List (Nat×AV):=[Z2n1,Z2nc nm ts,Z2n3]
theorem conv18 (hrv:noIdsL rv=true) (hL:L≠[]) (ho:out≠[]):Le 153 ⟨(Z2np nm ts),[Z2n4,Z2na L rn rv out,Z2nb L]⟩ (Z2nn L rn rv out nm ts):=by
 refine (openQ 153 L (rn.map AV.str) rv out [.nils,.str ⟨#[]⟩,.nils,.nils] [Z2n1,Z2nc nm ts,Z2n3] hL).trans ?_
 refine (le_open (n:=153) (st:=⟨(Z2np nm ts),[Z2n4,(32,.var [.row 34 0 (L.map adA).length,.map 33,.tmap (rn.map AV.str) rv,.own 3 (out.map Ru.av)]),Z2nb L,(34,.row 2 (L.map adA))]⟩) 32 3 35 (sz:=3) (es:=out.map Ru.av) (o:= .var [.row 34 0 (L.map adA).length,.map 33,.tmap (rn.map AV.str) rv,.own 3 (out.map Ru.av)]) rfl rfl (by simpa using ho) rfl (by simp [mid])).trans ?_
 refine (renSt_le (n:=153) (slots:=[4,8,9]) (tb:=[K1 4,K0 32,(34,.freeze),(35,.freeze)]) (st:=⟨(Z2np nm ts),[Z2n4,(32,.var [.row 34 0 (L.map adA).length,.map 33,.tmap (rn.map AV.str) rv,.row 35 0 (out.map Ru.av).length]),Z2nb L,(34,.row 2 (L.map adA)),(35,.row 3 (out.map Ru.av))]⟩) (st':=⟨(Z2np nm ts),[Z2n4,Z2nj L rn rv out]⟩) (cs:=[noIdsL [.nils,.str ⟨#[]⟩,.nils,.nils]=true,(L.map adA).length=(L.map adA).length,(out.map Ru.av).length=(out.map Ru.av).length,noIdsL (L.map adA)=true,noIdsL (out.map Ru.av)=true]) rfl fun q hq=> ?_).trans ?_
 ·simp only [List.mem_cons,List.not_mem_nil,or_false] at hq
  rcases hq with rfl|rfl|rfl|rfl|rfl
  ·rfl
  ·trivial
  ·trivial
  ·exact noIdsL_ads L
  ·exact noIdsL_rus' out
 ·refine renSt_le (n:=153) (slots:=[4,8,9]) (tb:=[K1 4,(32,.freeze)]) (st:=⟨(Z2np nm ts),[Z2n4,Z2nj L rn rv out]⟩) (st':=(Z2nn L rn rv out nm ts)) (cs:=[noIdsL [.nils,.str ⟨#[]⟩,.nils,.nils]=true,noIdsL [.seq (L.map adA) false,.dead,.tmap (rn.map AV.str) rv,.seq (out.map Ru.av) false]=true]) rfl fun q hq=> ?_
  simp only [List.mem_cons,List.not_mem_nil,or_false] at hq
  rcases hq with rfl|rfl<;>rfl
theorem Wrs.len {rn:List ByteArray} {a:Ad} {rs out out':List Ru} {L L':List Ad} (h:Wrs rn a rs L out L' out'):out'.length=out.length+rs.length:=by
 induction h with
 |nil L out=>simp
 |cons h1 h2 h3 ih=>rw [ih];simp;omega
theorem Ads.len {rules:List Ru} {rn:List ByteArray} {i:Nat} {L L':List Ad} {out out':List Ru} (h:Ads rules rn i L out L' out'):out.length≤out'.length:=by
 induction h with
 |stop L out=>exact Nat.le_refl _
 |go h1 h2 h3 ih=>have:=h2.len;simp at ih;omega
theorem Ads.ne {rules:List Ru} {rn:List ByteArray} {L L':List Ad} {out out':List Ru} (h:Ads rules rn 0 L out L' out') (hL:L≠[]):out'≠[]:=by
 have key:∀{i:Nat} {L L':List Ad} {out out':List Ru},Ads rules rn i L out L' out'→i=0→L≠[]→out'≠[]:=by
  intro i L L' out out' h
  cases h with
  |stop L out=>intro h0 hne;exact absurd (List.eq_nil_of_length_eq_zero h0) hne
  |go h1 h2 h3=>
   intro _ _ e
   have:=h3.len
   rw [e] at this
   simp at this
 exact key h rfl hL
def AdornR (rules:List Ru) (p:ByteArray) (ts:List Tm) (g pr:AV) (e:Int):Prop:=
 (e≠0∧g= .agg [.nils,.str ⟨#[]⟩,.nils,.nils]∧pr= .nils)∨(e=0∧g= .agg [.nils,.str p,.seq (ts.map Tm.av) false,.nils]∧pr= .nils∧ts.length≤24∧∀r,r∈rules→r.p≠p)∨
 (e=0∧∃(am:Am) (rn:List ByteArray) (L:List Ad) (out:List Ru),RefOK rules p ts am∧RN rules rn∧p∈rn∧Ads rules rn 0 [(p,patT ts [])] [] L out∧[(p,patT ts [])]<+:L∧L.Nodup∧(∃U:List Ad,UOK rules rn U∧∀a,a∈L→a∈U)∧L.length≤100∧out.length<900000000∧g= .agg [.seq (out.map Ru.av) false,.str (nameT p (patT ts [])),.seq (ts.map Tm.av) false,.nils]∧pr= .seq (L.map adA) false)
theorem k18 (rules:List Ru) (p:ByteArray) (ts:List Tm) (hsm:rules.length≤2000000) (hU:∀(rn:List ByteArray) (am:Am),RN rules rn→RefOK rules p ts am→p∈rn→∃U:List Ad,UOK rules rn U∧(p,patT ts [])∈U):
  ∃(g pr:AV) (e:Int),Sp 18 [.seq (rules.map Ru.av) false,atA p ts] [] (.tup [g,pr,.int .i64 e]) []∧AdornR rules p ts g pr e:=by
 obtain ⟨e,s,⟨rfl,rfl⟩,r0⟩:=w18a rules p ts
 obtain ⟨rc,s44,h44⟩:=k44 rules p ts hsm
 have ha:noIdsL [AV.seq (rules.map Ru.av) false,atA p ts]=true:=by simp [noIdsL,noIds,atA,atC]
 by_cases h0:rc=0
 ·subst h0
  obtain ⟨am,hok⟩:=h44 rfl
  obtain ⟨e,s,⟨rfl,rfl⟩,r1⟩:=w18b rules p ts s44
  obtain ⟨e,s,⟨rfl,rfl⟩,r2⟩:=w18c rules p ts hok.few
  obtain ⟨e,s,⟨rfl,rfl⟩,r3⟩:=w18d rules p ts
  obtain ⟨rn,hnd,hrn,hL0⟩:=l18_0 rules p ts hsm
  obtain ⟨e,s,⟨rfl,rfl⟩,r4⟩:=w18e rules p ts rn (gO rules rn) (noIds_gO _ _) hL0
  have r3a:=r3.post (le_closeNil (n:=153) (st:=⟨[(0,.seq (rules.map Ru.av) false),Z2n0 p ts,Z2n1,Z2n2,Z2n3],[Z2n4,Z2n5 p ts,(30,.map [] []),(32,.var [.nils,.nilmap,.map 30,.nils])]⟩) 32 0 2 rfl rfl)
  have r3b:=r3a.post (le_closeNil (n:=153) (st:=⟨[(0,.seq (rules.map Ru.av) false),Z2n0 p ts,Z2n1,Z2n2,Z2n3],[Z2n4,Z2n5 p ts,(30,.map [] []),(32,.var [.own 2 [],.nilmap,.map 30,.nils])]⟩) 32 3 3 rfl rfl)
  have r4a:=r4.post (seal18 rules p ts rn)
  have go:∀{t:St},Rz 153 (restC 5 (bodyOf Tryz.f18)) ⟨[Z2n0 p ts,Z2n1,Z2n2,Z2n3],[Z2n4,Z2n5 p ts,(32,.var [.own 2 [],.nilmap,.tmap (rn.map AV.str) (rvOf rules rn),.own 3 []])]⟩ .ret t→Rz 153 (bodyOf Tryz.f18) ⟨[(0,.seq (rules.map Ru.av) false),(1,atA p ts)],[]⟩ .ret t:=fun h=>
   Runs.nth 0 (by kernel_rfl) r0 (Runs.nth 1 (by kernel_rfl) r1 (Runs.nth 2 (by kernel_rfl) r2 (Runs.nth 3 (by kernel_rfl) r3b (Runs.nth 4 (by kernel_rfl) r4a h))))
  by_cases hp:p∈rn
  ·obtain ⟨U,hu,haU⟩:=hU rn am hrn hok hp
   obtain ⟨j,hf,hj⟩:=findA_some (i:=0) hp
   rw [Nat.zero_add] at hf
   obtain ⟨es,h5,h6⟩:=RV_of hrn j (List.getElem?_eq_some_iff.1 hj).1
   obtain ⟨e,s,⟨rfl,rfl⟩,r5⟩:=w18f p ts rn (rvOf rules rn) es (decide_eq_false (by omega)) ⟨j,hf,h5⟩
   have hfew:=hok.few
   have hsh:=hok.short
   have hps:(patT ts []).size≤24:=by rw [patT_size];exact hfew
   obtain ⟨e,s,⟨rfl,rfl⟩,r6⟩:=w18g p ts rn (rvOf rules rn) (nameT p (patT ts [])) (by omega) (q46z (p,patT ts []) (rn.map AV.str) (rvOf rules rn) (by show p.size<_;omega) (by show (patT ts []).size<_;omega))
   obtain ⟨e,s,⟨rfl,rfl⟩,r7⟩:=w18h [(p,patT ts [])] rn (rvOf rules rn) [] (nameT p (patT ts [])) ts
   have huf:=hu.few
   obtain ⟨L,out,d1,d2,d3,d4,d5⟩:=l18o rules rn U [.nils,.str ⟨#[]⟩,.nils,.nils] [.str (nameT p (patT ts [])),.seq (ts.map Tm.av) false] rfl hrn hu hsm hok.small U.length 0 [(p,patT ts [])] [] (by omega) (by simp) ⟨by simp,fun x hx=>by rw [List.mem_singleton.1 hx];exact haU⟩ (by simp;omega)
   have hLne:L≠[]:=by
    rintro rfl
    have:=d3.length_le
    simp at this
   have hone:=d1.ne (by simp)
   have hLl:=d2.len
   have e7:partC 7 (bodyOf Tryz.f18)= .seq (regOf Tryz.f18 12) (.block 2 (.loop (loopOf Tryz.f18 1))):=by kernel_rfl
   have r7':Rz 153 (partC 7 (bodyOf Tryz.f18)) ⟨[Z2n1,Z2n2,Z2n3],[Z2n4,(8,.var [.str (nameT p (patT ts [])),.seq (ts.map Tm.av) false]),(32,.var [.own 2 ([(p,patT ts [])].map adA),.map 33,.tmap (rn.map AV.str) (rvOf rules rn),.own 3 (([]:List Ru).map Ru.av)]),Z2n8 p ts]⟩ .normal ⟨[Z2n1,(8,.tptr [.str (nameT p (patT ts [])),.seq (ts.map Tm.av) false]),(9,.tptr [.seq (L.map adA) false,.dead,.tmap (rn.map AV.str) (rvOf rules rn),.seq (out.map Ru.av) false])],[Z2n4]⟩:=by
    rw [e7]
    exact (r7.seq (Loops.runs d5).exitBlk).post (conv18 L rn (rvOf rules rn) out (nameT p (patT ts [])) ts (noIds_rvOf _ _) hLne hone)
   rcases l18_3 L rn (rvOf rules rn) out (nameT p (patT ts [])) ts (by omega) with hL3|hL3
   ·obtain ⟨e,s,⟨rfl,rfl⟩,r8⟩:=b18s L rn (rvOf rules rn) out (nameT p (patT ts [])) ts hL3
    have r:=go (Runs.nth 5 (by kernel_rfl) r5 (Runs.nth 6 (by kernel_rfl) r6 (Runs.nth 7 (by kernel_rfl) r7' r8)))
    exact ⟨.agg [.nils,.str ⟨#[]⟩,.nils,.nils],.nils,70,sP Tryz.f18 ha r (.inr rfl),.inl ⟨by decide,rfl,rfl⟩⟩
   ·obtain ⟨e,s,⟨rfl,rfl⟩,r8⟩:=b18t L rn (rvOf rules rn) out (nameT p (patT ts [])) ts hL3
    have r:=go (Runs.nth 5 (by kernel_rfl) r5 (Runs.nth 6 (by kernel_rfl) r6 (Runs.nth 7 (by kernel_rfl) r7' r8)))
    exact ⟨_,_,0,sP Tryz.f18 ha r (.inr rfl),.inr (.inr ⟨rfl,am,rn,L,out,hok,hrn,hp,d1,d3,d2.1,⟨U,hu,d2.2⟩,by omega,d4,rfl,rfl⟩)⟩
  ·obtain ⟨e,s,⟨rfl,rfl⟩,r5⟩:=b18n p ts rn (rvOf rules rn) (findA_none hp)
   exact ⟨_,_,0,sP Tryz.f18 ha (go r5) (.inr rfl),.inr (.inl ⟨rfl,rfl,rfl,hok.few,fun r hr h=>hp ((hrn p).2 ⟨r,hr,h⟩)⟩)⟩
 ·obtain ⟨e,s,⟨rfl,rfl⟩,r1⟩:=b18e rules p ts rc (by simp [h0]) s44
  exact ⟨.agg [.nils,.str ⟨#[]⟩,.nils,.nils],.nils,rc,sP Tryz.f18 ha (Runs.nth 0 (by kernel_rfl) r0 r1) (.inr rfl),.inl ⟨h0,rfl,rfl⟩⟩
end
section
variable (L:List Ad) (nm:ByteArray)
theorem k21 (ts:List Tm) (hts:ts.length<1000000000000):Sp 21 [.seq (ts.map Tm.av) false,.seq (ts.map Tm.av) false] [] (.bool true) []:=st_spec ts false false hts
abbrev Z2o0:Nat×AV:=(0,.seq (L.map adA) false)
abbrev Z2o1 (i:Nat):Nat×AV:=(4,.int .i64 (i:Int))
abbrev Z2o3 (i:Nat):St:=⟨[Z2o0 L,(1,.str nm),(5,.int .i64 (i:Int))],[]⟩
abbrev Z2o4 (i:Nat):St:=⟨[Z2o1 i],[]⟩
theorem t22 (i:Nat) (hi:i<L.length) (hsm:L.length≤1000) (hs:∀a:Ad,a∈L→a.1.size<1000000∧a.2.size<1000000):En 20 (loopOf Tryz.f22 0) (Z2o3 L nm i) (fun e t=>(e= .ret∧(∃a:Ad,L[i]? =some a∧nameT a.1 a.2=nm)∧t=(Z2o4 i))∨(e= .normal∧(∃a:Ad,L[i]? =some a∧nameT a.1 a.2≠nm)∧t=⟨[Z2o0 L,(1,.str nm),(5,.int .i64 ((i+1:Nat):Int))],[]⟩)):=by
 obtain ⟨x0,hm0,hx0⟩:=elt_of adA (l:=L) (n:=(↑i:Int)) (by omega) (by omega)
 have hs1:=k14 x0.1 x0.2 (by (have hq:=hs _ (List.mem_of_getElem? hm0);omega)) (by (have hq:=hs _ (List.mem_of_getElem? hm0);omega))
 rcases bft (decide (nameT x0.1 x0.2=nm)) with h2|h2
 ·exact ⟨Out.ret,St.mk [Z2o1 i] [],.inl ⟨rfl,⟨x0,hm0,by simp_all⟩,rfl⟩,gA 0 [.is true,.elt (.agg [.str x0.1,.str x0.2]),.call (.str (nameT x0.1 x0.2)) [] [],.is true] [4] [] (by kernel_rfl) (aC4 (d1 adA L i (by omega)) hx0 hs1 h2)⟩
 ·exact ⟨Out.normal,St.mk [Z2o0 L,(1,AV.str nm),(5,.int .i64 ((i:Int)+1))] [],.inr ⟨rfl,⟨x0,hm0,by simp_all⟩,rfl⟩,gA 0 [.is true,.elt (.agg [.str x0.1,.str x0.2]),.call (.str (nameT x0.1 x0.2)) [] [],.is false] [0,1,5] [] (by kernel_rfl) (aC5 (d1 adA L i (by omega)) hx0 hs1 h2 (w1 i (by omega)))⟩
theorem e22:En 20 (loopOf Tryz.f22 0) ⟨[Z2o0 L,(1,.str nm),(5,.int .i64 ((L.length:Nat):Int))],[]⟩ (fun e t=>e= .exit 0∧t=⟨[],[]⟩):=by
 exact gE ⟨rfl,rfl⟩ 0 [.is false] [] [] (aC1 (show decide ((↑L.length:Int)<(↑(L.map adA).length:Int))=false from by simp))
abbrev Z2o2:Nat×AV:=(5,.int .i64 0)
abbrev Z2o5:St:=⟨[Z2o0 L,(1,.str nm),Z2o2],[]⟩
theorem l22_0 (hsm:L.length≤1000) (hs:∀a:Ad,a∈L→a.1.size<1000000∧a.2.size<1000000):
  (∃(i:Nat) (a:Ad),L[i]? =some a∧nameT a.1 a.2=nm∧Lo 20 (loopOf Tryz.f22 0) (Z2o5 L nm) .ret (Z2o4 i))∨
  ((∀a,a∈L→nameT a.1 a.2≠nm)∧Lo 20 (loopOf Tryz.f22 0) (Z2o5 L nm) (.exit 0) ⟨[],[]⟩):=by
 rcases range_inv (P:=Tryz.prog) (n:=20) (c:=loopOf Tryz.f22 0) (N:=L.length) (k:=0) (fun i=>(Z2o3 L nm i)) ⟨[],[]⟩ (fun t=>∃(i:Nat) (a:Ad),L[i]? =some a∧nameT a.1 a.2=nm∧t=(Z2o4 i)) (fun i=>∃a:Ad,L[i]? =some a∧nameT a.1 a.2≠nm) (fun i hi=>by
  obtain ⟨e,t,⟨rfl,⟨a,h1,h2⟩,rfl⟩|⟨rfl,h1,rfl⟩,h⟩:=t22 L nm i hi hsm hs
  ·exact ⟨_,_,.inl ⟨rfl,i,a,h1,h2,rfl⟩,h⟩
  ·exact ⟨_,_,.inr ⟨rfl,rfl,h1⟩,h⟩) (e22 L nm) with ⟨t,h,i,a,h1,h2,rfl⟩|⟨h,hr⟩
 ·exact .inl ⟨i,a,h1,h2,h⟩
 ·refine .inr ⟨fun a ha=> ?_,h⟩
  obtain ⟨i,hi⟩:=List.mem_iff_getElem?.1 ha
  obtain ⟨b,h1,h2⟩:=hr i (List.getElem?_eq_some_iff.1 hi).1
  rw [hi] at h1;injection h1 with h1;subst h1;exact h2
def bfs (s:ByteArray):Prop:=∀b:UInt8,b∈s.data.toList→b=98∨b=102
theorem b22r (i:Nat) (l22_0q:Lo 20 (loopOf Tryz.f22 0) (Z2o5 L nm) .ret (Z2o4 i)):En 20 (bodyOf Tryz.f22) ⟨[Z2o0 L,(1,.str nm)],[]⟩ (fun e t=>e= .ret∧t=(Z2o4 i)):=by
 have hl0:=l22_0q
 exact gE ⟨rfl,rfl⟩ 0 [.cut [0,1,5] [],.sum .ret [Z2o1 i] []] [4] [] (aC1 hl0)
theorem b22e (l22_0q:Lo 20 (loopOf Tryz.f22 0) (Z2o5 L nm) (.exit 0) ⟨[],[]⟩):En 20 (bodyOf Tryz.f22) ⟨[Z2o0 L,(1,.str nm)],[]⟩ (fun e t=>e= .ret∧t=⟨[(4,.int .i64 (-1))],[]⟩):=by
 have hl0:=l22_0q
 exact gE ⟨rfl,rfl⟩ 0 [.cut [0,1,5] [],.sum (.exit 0) [] []] [4] [] (aC1 hl0)
theorem k22 (hsm:L.length≤1000) (hs:∀a:Ad,a∈L→a.1.size<1000000∧a.2.size<1000000):∃rn:Int,Sp 22 [.seq (L.map adA) false,.str nm] [] (.int .i64 rn) []∧((rn= -1∧∀a,a∈L→nameT a.1 a.2≠nm)∨∃(i:Nat) (a:Ad),rn=(i:Int)∧L[i]? =some a∧nameT a.1 a.2=nm):=by
 rcases l22_0 L nm hsm hs with ⟨i,a,h1,h2,hL⟩|⟨h1,hL⟩
 ·obtain ⟨e,t,⟨rfl,rfl⟩,h⟩:=b22r L nm i hL
  exact ⟨_,sQ Tryz.f22 h,.inr ⟨i,a,rfl,h1,h2⟩⟩
 ·obtain ⟨e,t,⟨rfl,rfl⟩,h⟩:=b22e L nm hL
  exact ⟨_,sQ Tryz.f22 h,.inl ⟨rfl,h1⟩⟩
end
section
variable (e:Ex) (lf n dp:Int) (es:List Ex)
inductive ExS:Ex→Prop where
 |mk (o:Int) (t:Tm) (ks:List Ex) (h:ks.length<10000000000000) (hk:∀k,k∈ks→ExS k):ExS (.mk o t ks)
theorem ExS.len {x:Ex} (h:ExS x):x.kids.length<10000000000000:=by cases h;assumption
theorem ExS.kid {x:Ex} (h:ExS x):∀k,k∈x.kids→ExS k:=by cases h;assumption
theorem ok_exs (l:List Ex):∀e,e∈l.map Ex.av→okE 6 e:=fun e he=>by
 obtain ⟨x,_,rfl⟩:=List.mem_map.1 he
 simp
@[simp] theorem noIdsL_exs' (l:List Ex):noIdsL (l.map Ex.av)=true:=noIdsL_exs l
abbrev Z2p0:Nat×AV:=(1,.int .i64 lf)
abbrev Z2p1:Nat×AV:=(5,.int .i64 n)
abbrev Z2p2:Nat×AV:=(7,.int .i64 dp)
abbrev Z2p3 (i:Nat):Nat×AV:=(9,.int .i64 (i:Int))
abbrev Z2p4 (k:Nat):Nat×AV:=(10,.int .i64 (k:Int))
abbrev Z2p5:Nat×Ob:=(312,.row 6 (es.map Ex.av))
abbrev Z2p6 (k:Nat):Nat×AV:=(10,.int .i64 ((k+1:Nat):Int))
theorem t120iz (lf n dp:Int) (es:List Ex) (hes:es.length≤1048577) (i k:Nat) (x:Ex) (hi:i<es.length) (hx:(es.map Ex.av)[0+Int.toNat (i:Int)]? =some (.agg x.cells)) (y:Ex) (hk:k<x.kids.length) (hkl:x.kids.length<10000000000000) (hy:0≤(k:Int)∧(x.kids.map Ex.av)[Int.toNat (k:Int)]? =some (.agg y.cells)):EN 75 (loopOf Tryz.f120 2) ⟨[Z2p0 lf,Z2p1 n,(6,.row 312 0 (es.map Ex.av).length),Z2p2 dp,(8,.nils),Z2p3 i,Z2p4 k],[Z2p5 es]⟩ ⟨[Z2p0 lf,Z2p1 n,(6,.row 312 0 (es.map Ex.av).length),Z2p2 dp,(8,.row 372 0 1),Z2p3 i,Z2p6 k],[Z2p5 es,(372,.row 6 [.agg y.cells])]⟩:=by
 exact gE ⟨rfl,rfl⟩ 0 [.elt (.agg (Ex.cells x)),.is true,.elt (.agg (Ex.cells x)),.elt (.agg (Ex.cells y)),.is true] [1,5,6,7,8,9,10] [(312,.keep 312 true),(72,.keep 372 true)] (aC10 (show 0≤(i:Int)∧(i:Int)<(↑(es.map Ex.av).length:Int) from by simp;omega) hx (show decide ((k:Int)<(↑(List.length (x.kids.map Ex.av)):Int))=true from by simp;omega) (show 0≤(i:Int)∧(i:Int)<(↑(es.map Ex.av).length:Int) from by simp;omega) hx hy (show 1≤List.length [AV.agg [AV.int .i8 (Ex.op y),AV.str (Ex.t y).1,AV.int .i8 (Ex.t y).2,AV.int .i64 (Ex.t y).3,AV.str (Ex.t y).4,AV.seq (y.kids.map Ex.av) false]]∧[AV.agg [AV.int .i8 (Ex.op y),AV.str (Ex.t y).1,AV.int .i8 (Ex.t y).2,AV.int .i64 (Ex.t y).3,AV.str (Ex.t y).4,AV.seq (y.kids.map Ex.av) false]]≠[]∧(∀(e:AV),e∈[AV.agg [AV.int .i8 (Ex.op y),AV.str (Ex.t y).1,AV.int .i8 (Ex.t y).2,AV.int .i64 (Ex.t y).3,AV.str (Ex.t y).4,AV.seq (y.kids.map Ex.av) false]]→okE 6 e)∧(∀(e:AV),e∈[]→okE 6 e)∧(↑(0+List.length [AV.agg [AV.int .i8 (Ex.op y),AV.str (Ex.t y).1,AV.int .i8 (Ex.t y).2,AV.int .i64 (Ex.t y).3,AV.str (Ex.t y).4,AV.seq (y.kids.map Ex.av) false]]):Int)*80≤140737488355328∧0+List.length [AV.agg [AV.int .i8 (Ex.op y),AV.str (Ex.t y).1,AV.int .i8 (Ex.t y).2,AV.int .i64 (Ex.t y).3,AV.str (Ex.t y).4,AV.seq (y.kids.map Ex.av) false]]≤9223372036854775807 from by simp) (show IntKind.wrap .i64 ((k:Int)+1)=(k:Int)+1 from wrap64_id (by omega) (by omega)) (show noIdsL (es.map Ex.av)=true from by simp) rT)
theorem zsy9e9 (es:List Ex):noIdsL (es.map Ex.av)=true:=by simp
abbrev Z2pf (i:Nat):St:=⟨[Z2p0 lf,Z2p1 n,(6,.row 312 0 (es.map Ex.av).length),Z2p2 dp,(8,.nils),Z2p3 i],[Z2p5 es]⟩
theorem e120iz (hes:es.length≤1048577) (i:Nat) (x:Ex) (hi:i<es.length) (hx:(es.map Ex.av)[0+Int.toNat (i:Int)]? =some (.agg x.cells)):En 75 (loopOf Tryz.f120 2) ⟨[Z2p0 lf,Z2p1 n,(6,.row 312 0 (es.map Ex.av).length),Z2p2 dp,(8,.nils),Z2p3 i,(10,.int .i64 ((x.kids.length:Nat):Int))],[Z2p5 es]⟩ (fun e t=>e= .exit 4∧t=(Z2pf lf n dp es i)):=by
 exact gE ⟨rfl,rfl⟩ 0 [.elt (.agg (Ex.cells x)),.is false] [1,5,6,7,8,9] [K1 312] (aC4 (show 0≤(i:Int)∧(i:Int)<(↑(es.map Ex.av).length:Int) from by simp;omega) hx (zsq7nn x) (zsy9e9 es))
abbrev Z2p7 (nx:List Ex):Nat×Ob:=(372,.row 6 (nx.map Ex.av))
theorem t120is (lf n dp:Int) (es:List Ex) (hes:es.length≤1048577) (nx:List Ex) (hnl:nx.length≤1048577) (hok:∀e,e∈nx.map Ex.av→okE 6 e) (i k:Nat) (x:Ex) (hi:i<es.length) (hx:(es.map Ex.av)[0+Int.toNat (i:Int)]? =some (.agg x.cells)) (y:Ex) (hk:k<x.kids.length) (hkl:x.kids.length<10000000000000) (hy:0≤(k:Int)∧(x.kids.map Ex.av)[Int.toNat (k:Int)]? =some (.agg y.cells)):EN 75 (loopOf Tryz.f120 2) ⟨[Z2p0 lf,Z2p1 n,(6,.row 312 0 (es.map Ex.av).length),Z2p2 dp,(8,.row 372 0 (nx.map Ex.av).length),Z2p3 i,Z2p4 k],[Z2p5 es,Z2p7 nx]⟩ ⟨[Z2p0 lf,Z2p1 n,(6,.row 312 0 (es.map Ex.av).length),Z2p2 dp,(8,.row 372 0 ((nx.map Ex.av).length+1)),Z2p3 i,Z2p6 k],[Z2p5 es,(372,.row 6 (nx.map Ex.av++[.agg y.cells]))]⟩:=by
 exact gE ⟨rfl,rfl⟩ 0 [.elt (.agg (Ex.cells x)),.is true,.elt (.agg (Ex.cells x)),.elt (.agg (Ex.cells y)),.is true] [1,5,6,7,8,9,10] [(312,.keep 312 true),(72,.keep 372 true)] (aC10 (show 0≤(i:Int)∧(i:Int)<(↑(es.map Ex.av).length:Int) from by simp;omega) hx (show decide ((k:Int)<(↑(List.length (x.kids.map Ex.av)):Int))=true from by simp;omega) (show 0≤(i:Int)∧(i:Int)<(↑(es.map Ex.av).length:Int) from by simp;omega) hx hy (show (1:Nat)≤List.length [AV.agg [AV.int .i8 (Ex.op y),AV.str (Ex.t y).1,AV.int .i8 (Ex.t y).2,AV.int .i64 (Ex.t y).3,AV.str (Ex.t y).4,AV.seq (y.kids.map Ex.av) false]]∧(0:Nat)=(0:Nat)∧List.length (nx.map Ex.av)=List.length (nx.map Ex.av)∧(∀(e:AV),e∈[AV.agg [AV.int .i8 (Ex.op y),AV.str (Ex.t y).1,AV.int .i8 (Ex.t y).2,AV.int .i64 (Ex.t y).3,AV.str (Ex.t y).4,AV.seq (y.kids.map Ex.av) false]]→okE (6:Nat) e)∧(∀(e:AV),e∈List.map Ex.av nx→okE (6:Nat) e)∧(↑(List.length (nx.map Ex.av)+List.length [AV.agg [AV.int .i8 (Ex.op y),AV.str (Ex.t y).1,AV.int .i8 (Ex.t y).2,AV.int .i64 (Ex.t y).3,AV.str (Ex.t y).4,AV.seq (y.kids.map Ex.av) false]]):Int)*(80:Int)≤(140737488355328:Int)∧List.length (nx.map Ex.av)+List.length [AV.agg [AV.int .i8 (Ex.op y),AV.str (Ex.t y).1,AV.int .i8 (Ex.t y).2,AV.int .i64 (Ex.t y).3,AV.str (Ex.t y).4,AV.seq (y.kids.map Ex.av) false]]≤(9223372036854775807:Nat) from by simp;omega) (show IntKind.wrap .i64 ((k:Int)+1)=(k:Int)+1 from wrap64_id (by omega) (by omega)) (show noIdsL (es.map Ex.av)=true from by simp) (show noIdsL (List.map Ex.av nx++[AV.agg [AV.int .i8 (Ex.op y),AV.str (Ex.t y).1,AV.int .i8 (Ex.t y).2,AV.int .i64 (Ex.t y).3,AV.str (Ex.t y).4,AV.seq (y.kids.map Ex.av) false]])=true from by simp))
theorem zsehlk (nx:List Ex):noIdsL (nx.map Ex.av)=true:=by simp
abbrev Z2pg (nx:List Ex) (i:Nat):St:=⟨[Z2p0 lf,Z2p1 n,(6,.row 312 0 (es.map Ex.av).length),Z2p2 dp,(8,.row 372 0 (nx.map Ex.av).length),Z2p3 i],[Z2p5 es,Z2p7 nx]⟩
theorem e120is (hes:es.length≤1048577) (nx:List Ex) (i:Nat) (x:Ex) (hi:i<es.length) (hx:(es.map Ex.av)[0+Int.toNat (i:Int)]? =some (.agg x.cells)):En 75 (loopOf Tryz.f120 2) ⟨[Z2p0 lf,Z2p1 n,(6,.row 312 0 (es.map Ex.av).length),Z2p2 dp,(8,.row 372 0 (nx.map Ex.av).length),Z2p3 i,(10,.int .i64 ((x.kids.length:Nat):Int))],[Z2p5 es,Z2p7 nx]⟩ (fun e t=>e= .exit 4∧t=(Z2pg lf n dp es nx i)):=by
 exact gE ⟨rfl,rfl⟩ 0 [.elt (.agg (Ex.cells x)),.is false] [1,5,6,7,8,9] [K1 312,K1 372] (aC5 (show 0≤(i:Int)∧(i:Int)<(↑(es.map Ex.av).length:Int) from by simp;omega) hx (zsq7nn x) (zsy9e9 es) (zsehlk nx))
def nV:List Ex→AV
 |[]=> .nils
 |x::r=> .row 372 0 ((x::r).map Ex.av).length
def nP:List Ex→List (Nat×Ob)
 |[]=>[]
 |x::r=>[(372,.row 6 ((x::r).map Ex.av))]
abbrev Z2p8:Nat×AV:=(10,.int .i64 0)
theorem l120_2 (hes:es.length≤1048577) (nx:List Ex) (i:Nat) (x:Ex) (hi:i<es.length) (hx:(es.map Ex.av)[0+Int.toNat (i:Int)]? =some (.agg x.cells)) (hkl:nx.length+x.kids.length≤1048577):Lo 75 (loopOf Tryz.f120 2) ⟨[Z2p0 lf,Z2p1 n,(6,.row 312 0 (es.map Ex.av).length),Z2p2 dp,(8,nV nx),Z2p3 i,Z2p8],Z2p5 es::nP nx⟩ (.exit 4) ⟨[Z2p0 lf,Z2p1 n,(6,.row 312 0 (es.map Ex.av).length),Z2p2 dp,(8,nV (nx++x.kids)),Z2p3 i],Z2p5 es::nP (nx++x.kids)⟩:=by
 have h:=Loops.from (P:=Tryz.prog) (n:=75) (c:=loopOf Tryz.f120 2) (e:= .exit 4) (st':=⟨[Z2p0 lf,Z2p1 n,(6,.row 312 0 (es.map Ex.av).length),Z2p2 dp,(8,nV (nx++x.kids)),Z2p3 i],Z2p5 es::nP (nx++x.kids)⟩) (st:=fun k=>⟨[Z2p0 lf,Z2p1 n,(6,.row 312 0 (es.map Ex.av).length),Z2p2 dp,(8,nV (nx++x.kids.take k)),Z2p3 i,(10,.int .i64 (k:Int))],Z2p5 es::nP (nx++x.kids.take k)⟩) (N:=x.kids.length) ?_ ?_
 ·simpa using h
 ·intro k hk
  have hy:x.kids[k]? =some x.kids[k]:=List.getElem?_eq_getElem hk
  have htk:x.kids.take (k+1)=x.kids.take k++[x.kids[k]]:=List.take_succ_eq_append_getElem hk
  show Rz 75 (loopOf Tryz.f120 2) ⟨[Z2p0 lf,Z2p1 n,(6,.row 312 0 (es.map Ex.av).length),Z2p2 dp,(8,nV (nx++x.kids.take k)),Z2p3 i,(10,.int .i64 (k:Int))],Z2p5 es::nP (nx++x.kids.take k)⟩ .normal ⟨[Z2p0 lf,Z2p1 n,(6,.row 312 0 (es.map Ex.av).length),Z2p2 dp,(8,nV (nx++x.kids.take (k+1))),Z2p3 i,(10,.int .i64 ((k+1:Nat):Int))],Z2p5 es::nP (nx++x.kids.take (k+1))⟩
  rw [htk,←List.append_assoc]
  generalize x.kids[k]=y at hy
  have hy':0≤(k:Int)∧(x.kids.map Ex.av)[Int.toNat (k:Int)]? =some (.agg y.cells):=⟨by omega,by rw [Int.toNat_natCast,List.getElem?_map,hy,Option.map_some,Ex.av_eq]⟩
  have hl:(nx++x.kids.take k).length≤1048577:=by rw [List.length_append,List.length_take];omega
  generalize nx++x.kids.take k=m at hl
  cases m with
  |nil=>
   obtain ⟨e,t,⟨rfl,rfl⟩,h⟩:=t120iz lf n dp es hes i k x hi hx y hk (by omega) hy'
   rw [←Ex.av_eq] at h
   exact h
  |cons a r=>
   obtain ⟨e,t,⟨rfl,rfl⟩,h⟩:=t120is lf n dp es hes (a::r) hl (ok_exs _) i k x hi hx y hk (by omega) hy'
   rw [←Ex.av_eq,show ((a::r).map Ex.av).length+1=(((a::r)++[y]).map Ex.av).length from by simp,show (a::r).map Ex.av++[y.av]=((a::r)++[y]).map Ex.av from by simp] at h
   exact h
 ·rw [List.take_length]
  generalize nx++x.kids=m
  cases m with
  |nil=>
   obtain ⟨e,t,⟨rfl,rfl⟩,h⟩:=e120iz lf n dp es hes i x hi hx
   exact .leave h (by simp)
  |cons a r=>
   obtain ⟨e,t,⟨rfl,rfl⟩,h⟩:=e120is lf n dp es hes (a::r) i x hi hx
   exact .leave h (by simp)
abbrev Z2p9 (i:Nat):Nat×AV:=(9,.int .i64 ((i+1:Nat):Int))
abbrev Z2ph (i:Nat):St:=⟨[Z2p0 lf,Z2p1 n,(6,.row 312 0 (es.map Ex.av).length),Z2p2 dp,(8,.nils),Z2p3 i,Z2p8],[Z2p5 es]⟩
theorem m120nzz (hes:es.length≤1048577) (hn:0≤n∧n≤1048577) (hlf:0≤lf∧lf≤1048577) (i:Nat) (x:Ex) (hi:i<es.length) (hx:(es.map Ex.av)[0+Int.toNat (i:Int)]? =some (.agg x.cells)) (hkl:(x.kids.map Ex.av).length<10000000000000) (hc:decide (lf<n+0+((x.kids.map Ex.av).length:Nat))=false) (l120_2q:Lo 75 (loopOf Tryz.f120 2) (Z2ph lf n dp es i) (.exit 4) (Z2pf lf n dp es i)):EN 75 (loopOf Tryz.f120 1) (Z2pf lf n dp es i) ⟨[Z2p0 lf,Z2p1 n,(6,.row 312 0 (es.map Ex.av).length),Z2p2 dp,(8,.nils),Z2p9 i],[Z2p5 es]⟩:=by
 have hl0:=l120_2q
 exact gE ⟨rfl,rfl⟩ 0 [.is true,.elt (.agg (Ex.cells x)),.is false,.cut [1,5,6,7,8,9,10] [K1 312],.sum (.exit 4) [Z2p0 lf,Z2p1 n,(6,.row 312 0 (es.map Ex.av).length),Z2p2 dp,(8,.nils),Z2p3 i] [Z2p5 es]] [1,5,6,7,8,9] [K1 312] (aC10 (d1 Ex.av es i (by omega)) (show IntKind.wrap .i64 (n+0)=n+0 from wrap64_id (by omega) (by omega)) (show 0≤(i:Int)∧(i:Int)<(↑(es.map Ex.av).length:Int) from by simp;omega) hx (show IntKind.wrap .i64 (n+0+(↑(List.length (x.kids.map Ex.av)):Int))=n+0+(↑(List.length (x.kids.map Ex.av)):Int) from wrap64_id (by omega) (by omega)) hc (zsy9e9 es) hl0 (w1 i (by omega)) (zsy9e9 es))
abbrev Z2pa (nx2:List Ex):Nat×Ob:=(372,.row 6 (nx2.map Ex.av))
abbrev Z2pi (nx2:List Ex) (i:Nat):St:=⟨[Z2p0 lf,Z2p1 n,(6,.row 312 0 (es.map Ex.av).length),Z2p2 dp,(8,.row 372 0 (nx2.map Ex.av).length),Z2p3 i],[Z2p5 es,Z2pa nx2]⟩
abbrev Z2pj (nx2:List Ex) (i:Nat):St:=⟨[Z2p0 lf,Z2p1 n,(6,.row 312 0 (es.map Ex.av).length),Z2p2 dp,(8,.row 372 0 (nx2.map Ex.av).length),Z2p9 i],[Z2p5 es,Z2pa nx2]⟩
theorem m120nzs (hes:es.length≤1048577) (nx2:List Ex) (hn:0≤n∧n≤1048577) (hlf:0≤lf∧lf≤1048577) (i:Nat) (x:Ex) (hi:i<es.length) (hx:(es.map Ex.av)[0+Int.toNat (i:Int)]? =some (.agg x.cells)) (hkl:(x.kids.map Ex.av).length<10000000000000) (hc:decide (lf<n+0+((x.kids.map Ex.av).length:Nat))=false) (l120_2q:Lo 75 (loopOf Tryz.f120 2) (Z2ph lf n dp es i) (.exit 4) (Z2pi lf n dp es nx2 i)):EN 75 (loopOf Tryz.f120 1) (Z2pf lf n dp es i) (Z2pj lf n dp es nx2 i):=by
 have hl0:=l120_2q
 exact gE ⟨rfl,rfl⟩ 0 [.is true,.elt (.agg (Ex.cells x)),.is false,.cut [1,5,6,7,8,9,10] [K1 312],.sum (.exit 4) [Z2p0 lf,Z2p1 n,(6,.row 312 0 (es.map Ex.av).length),Z2p2 dp,(8,.row 372 0 (nx2.map Ex.av).length),Z2p3 i] [Z2p5 es,Z2pa nx2]] [1,5,6,7,8,9] [K1 312,K1 372] (aC11 (d1 Ex.av es i (by omega)) (show IntKind.wrap .i64 (n+0)=n+0 from wrap64_id (by omega) (by omega)) (show 0≤(i:Int)∧(i:Int)<(↑(es.map Ex.av).length:Int) from by simp;omega) hx (show IntKind.wrap .i64 (n+0+(↑(List.length (x.kids.map Ex.av)):Int))=n+0+(↑(List.length (x.kids.map Ex.av)):Int) from wrap64_id (by omega) (by omega)) hc (zsy9e9 es) hl0 (w1 i (by omega)) (zsy9e9 es) (show noIdsL (nx2.map Ex.av)=true from by simp))
theorem m120nss (hes:es.length≤1048577) (nx nx2:List Ex) (hnl:(nx.map Ex.av).length≤1048577) (hn:0≤n∧n≤1048577) (hlf:0≤lf∧lf≤1048577) (i:Nat) (x:Ex) (hi:i<es.length) (hx:(es.map Ex.av)[0+Int.toNat (i:Int)]? =some (.agg x.cells)) (hkl:(x.kids.map Ex.av).length<10000000000000) (hc:decide (lf<n+((nx.map Ex.av).length:Nat)+((x.kids.map Ex.av).length:Nat))=false) (l120_2q:Lo 75 (loopOf Tryz.f120 2) ⟨[Z2p0 lf,Z2p1 n,(6,.row 312 0 (es.map Ex.av).length),Z2p2 dp,(8,.row 372 0 (nx.map Ex.av).length),Z2p3 i,Z2p8],[Z2p5 es,Z2p7 nx]⟩ (.exit 4) (Z2pi lf n dp es nx2 i)):EN 75 (loopOf Tryz.f120 1) (Z2pg lf n dp es nx i) (Z2pj lf n dp es nx2 i):=by
 have hl0:=l120_2q
 exact gE ⟨rfl,rfl⟩ 0 [.is true,.elt (.agg (Ex.cells x)),.is false,.cut [1,5,6,7,8,9,10] [K1 312,K1 372],.sum (.exit 4) [Z2p0 lf,Z2p1 n,(6,.row 312 0 (es.map Ex.av).length),Z2p2 dp,(8,.row 372 0 (nx2.map Ex.av).length),Z2p3 i] [Z2p5 es,Z2pa nx2]] [1,5,6,7,8,9] [K1 312,K1 372] (aC12 (d1 Ex.av es i (by omega)) (show IntKind.wrap .i64 (n+(↑(nx.map Ex.av).length:Int))=n+(↑(nx.map Ex.av).length:Int) from wrap64_id (by omega) (by omega)) (show 0≤(i:Int)∧(i:Int)<(↑(es.map Ex.av).length:Int) from by simp;omega) hx (show IntKind.wrap .i64 (n+(↑(nx.map Ex.av).length:Int)+(↑(List.length (x.kids.map Ex.av)):Int))=n+(↑(nx.map Ex.av).length:Int)+(↑(List.length (x.kids.map Ex.av)):Int) from wrap64_id (by omega) (by omega)) hc (zsy9e9 es) (zsehlk nx) hl0 (w1 i (by omega)) (zsy9e9 es) (show noIdsL (nx2.map Ex.av)=true from by simp))
abbrev Z2pb:Nat×AV:=(4,.int .i64 (lf+1))
abbrev Z2pk:St:=⟨[Z2pb lf],[]⟩
theorem m120rz (hes:es.length≤1048577) (hn:0≤n∧n≤1048577) (hlf:0≤lf∧lf≤1048577) (i:Nat) (x:Ex) (hi:i<es.length) (hx:(es.map Ex.av)[0+Int.toNat (i:Int)]? =some (.agg x.cells)) (hkl:(x.kids.map Ex.av).length<10000000000000) (hc:decide (lf<n+0+((x.kids.map Ex.av).length:Nat))=true):En 75 (loopOf Tryz.f120 1) (Z2pf lf n dp es i) (fun e t=>e= .ret∧t=(Z2pk lf)):=by
 exact gE ⟨rfl,rfl⟩ 0 [.is true,.elt (.agg (Ex.cells x)),.is true] [4] [] (aC7 (d1 Ex.av es i (by omega)) (show IntKind.wrap .i64 (n+0)=n+0 from wrap64_id (by omega) (by omega)) (show 0≤(i:Int)∧(i:Int)<(↑(es.map Ex.av).length:Int) from by simp;omega) hx (show IntKind.wrap .i64 (n+0+(↑(List.length (x.kids.map Ex.av)):Int))=n+0+(↑(List.length (x.kids.map Ex.av)):Int) from wrap64_id (by omega) (by omega)) hc (w1 lf (by omega)))
theorem zs7b8c (es:List Ex):decide ((↑es.length:Int)<(↑(es.map Ex.av).length:Int))=false:=by simp
theorem m120ez (hes:es.length≤1048577):En 75 (loopOf Tryz.f120 1) ⟨[Z2p0 lf,Z2p1 n,(6,.row 312 0 (es.map Ex.av).length),Z2p2 dp,(8,.nils),(9,.int .i64 ((es.length:Nat):Int))],[Z2p5 es]⟩ (fun e t=>e= .exit 2∧t=⟨[Z2p0 lf,Z2p1 n,(6,.row 312 0 (es.map Ex.av).length),Z2p2 dp,(8,.nils)],[Z2p5 es]⟩):=by
 exact gE ⟨rfl,rfl⟩ 0 [.is false] [1,5,6,7,8] [K1 312] (aC2 (zs7b8c es) (zsy9e9 es))
theorem m120rs (hes:es.length≤1048577) (nx:List Ex) (hnl:(nx.map Ex.av).length≤1048577) (hn:0≤n∧n≤1048577) (hlf:0≤lf∧lf≤1048577) (i:Nat) (x:Ex) (hi:i<es.length) (hx:(es.map Ex.av)[0+Int.toNat (i:Int)]? =some (.agg x.cells)) (hkl:(x.kids.map Ex.av).length<10000000000000) (hc:decide (lf<n+((nx.map Ex.av).length:Nat)+((x.kids.map Ex.av).length:Nat))=true):En 75 (loopOf Tryz.f120 1) (Z2pg lf n dp es nx i) (fun e t=>e= .ret∧t=(Z2pk lf)):=by
 exact gE ⟨rfl,rfl⟩ 0 [.is true,.elt (.agg (Ex.cells x)),.is true] [4] [] (aC7 (d1 Ex.av es i (by omega)) (show IntKind.wrap .i64 (n+(↑(nx.map Ex.av).length:Int))=n+(↑(nx.map Ex.av).length:Int) from wrap64_id (by omega) (by omega)) (show 0≤(i:Int)∧(i:Int)<(↑(es.map Ex.av).length:Int) from by simp;omega) hx (show IntKind.wrap .i64 (n+(↑(nx.map Ex.av).length:Int)+(↑(List.length (x.kids.map Ex.av)):Int))=n+(↑(nx.map Ex.av).length:Int)+(↑(List.length (x.kids.map Ex.av)):Int) from wrap64_id (by omega) (by omega)) hc (w1 lf (by omega)))
theorem m120es (hes:es.length≤1048577) (nx:List Ex):En 75 (loopOf Tryz.f120 1) ⟨[Z2p0 lf,Z2p1 n,(6,.row 312 0 (es.map Ex.av).length),Z2p2 dp,(8,.row 372 0 (nx.map Ex.av).length),(9,.int .i64 ((es.length:Nat):Int))],[Z2p5 es,Z2p7 nx]⟩ (fun e t=>e= .exit 2∧t=⟨[Z2p0 lf,Z2p1 n,(6,.row 312 0 (es.map Ex.av).length),Z2p2 dp,(8,.row 372 0 (nx.map Ex.av).length)],[Z2p5 es,Z2p7 nx]⟩):=by
 exact gE ⟨rfl,rfl⟩ 0 [.is false] [1,5,6,7,8] [K1 312,K1 372] (aC3 (zs7b8c es) (zsy9e9 es) (zsehlk nx))
abbrev Z2pc:Nat×AV:=(9,.int .i64 0)
theorem l120_1 (hes:es.length≤1048577) (hS:∀x,x∈es→ExS x) (hn:0≤n∧n≤1048577) (hlf:0≤lf∧lf≤1048577) (hnl:n≤lf):Lo 75 (loopOf Tryz.f120 1) ⟨[Z2p0 lf,Z2p1 n,(6,.row 312 0 (es.map Ex.av).length),Z2p2 dp,(8,nV []),Z2pc],Z2p5 es::nP []⟩ .ret (Z2pk lf)∨∃nx:List Ex,n+nx.length≤lf∧(∀x,x∈nx→ExS x)∧Lo 75 (loopOf Tryz.f120 1) ⟨[Z2p0 lf,Z2p1 n,(6,.row 312 0 (es.map Ex.av).length),Z2p2 dp,(8,nV []),Z2pc],Z2p5 es::nP []⟩ (.exit 2) ⟨[Z2p0 lf,Z2p1 n,(6,.row 312 0 (es.map Ex.av).length),Z2p2 dp,(8,nV nx)],Z2p5 es::nP nx⟩:=by
 have T:∀(i:Nat) (nx:List Ex),i<es.length→(n+nx.length≤lf∧∀x,x∈nx→ExS x)→En 75 (loopOf Tryz.f120 1) ⟨[Z2p0 lf,Z2p1 n,(6,.row 312 0 (es.map Ex.av).length),Z2p2 dp,(8,nV nx),Z2p3 i],Z2p5 es::nP nx⟩ (fun e s=>(e= .ret∧s=(Z2pk lf))∨(e= .normal∧∃g:List Ex,(n+g.length≤lf∧∀x,x∈g→ExS x)∧s=⟨[Z2p0 lf,Z2p1 n,(6,.row 312 0 (es.map Ex.av).length),Z2p2 dp,(8,nV g),Z2p9 i],Z2p5 es::nP g⟩)):=by
  intro i nx hi ⟨h1,h2⟩
  have hxe:es[i]? =some es[i]:=List.getElem?_eq_getElem hi
  generalize es[i]=x at hxe
  have hSx:=hS x (List.mem_of_getElem? hxe)
  have hx:(es.map Ex.av)[0+Int.toNat (i:Int)]? =some (.agg x.cells):=by rw [Nat.zero_add,Int.toNat_natCast,List.getElem?_map,hxe,Option.map_some,Ex.av_eq]
  have hkl:(x.kids.map Ex.av).length<10000000000000:=by rw [List.length_map];exact hSx.len
  have hkk:(x.kids.map Ex.av).length=x.kids.length:=List.length_map ..
  have hall:∀y,y∈nx++x.kids→ExS y:=fun y hy=>(List.mem_append.1 hy).elim (h2 y) (hSx.kid y)
  have hnn:nx.length≤1048577:=by omega
  cases nx with
  |nil=>
   by_cases hc:lf<n+0+((x.kids.map Ex.av).length:Nat)
   ·obtain ⟨e,t,⟨rfl,rfl⟩,h⟩:=m120rz lf n dp es hes hn hlf i x hi hx hkl (decide_eq_true hc)
    exact ⟨_,_,.inl ⟨rfl,rfl⟩,h⟩
   ·have hq:=l120_2 lf n dp es hes [] i x hi hx (by simp;omega)
    have hfin:n+([]++x.kids).length≤lf:=by simp;omega
    revert hq hall hfin
    generalize ([]:List Ex)++x.kids=m
    intro hall hq hfin
    cases m with
    |nil=>
     obtain ⟨e,t,⟨rfl,rfl⟩,h⟩:=m120nzz lf n dp es hes hn hlf i x hi hx hkl (decide_eq_false hc) hq
     exact ⟨_,_,.inr ⟨rfl,[],⟨hfin,hall⟩,rfl⟩,h⟩
    |cons a r=>
     obtain ⟨e,t,⟨rfl,rfl⟩,h⟩:=m120nzs lf n dp es hes (a::r) hn hlf i x hi hx hkl (decide_eq_false hc) hq
     exact ⟨_,_,.inr ⟨rfl,a::r,⟨hfin,hall⟩,rfl⟩,h⟩
  |cons b q=>
   have hnk:((b::q).map Ex.av).length=(b::q).length:=List.length_map ..
   by_cases hc:lf<n+(((b::q).map Ex.av).length:Nat)+((x.kids.map Ex.av).length:Nat)
   ·obtain ⟨e,t,⟨rfl,rfl⟩,h⟩:=m120rs lf n dp es hes (b::q) (by omega) hn hlf i x hi hx hkl (decide_eq_true hc)
    exact ⟨_,_,.inl ⟨rfl,rfl⟩,h⟩
   ·have hq:=l120_2 lf n dp es hes (b::q) i x hi hx (by omega)
    have hfin:n+((b::q)++x.kids).length≤lf:=by rw [List.length_append];omega
    obtain ⟨e,t,⟨rfl,rfl⟩,h⟩:=m120nss lf n dp es hes (b::q) ((b::q)++x.kids) (by omega) hn hlf i x hi hx hkl (decide_eq_false hc) hq
    exact ⟨_,_,.inr ⟨rfl,(b::q)++x.kids,⟨hfin,hall⟩,rfl⟩,h⟩
 rcases inv_loop (P:=Tryz.prog) (n:=75) (c:=loopOf Tryz.f120 1) (N:=es.length) (k:=2) (γ:=List Ex) (fun i nx=>⟨[Z2p0 lf,Z2p1 n,(6,.row 312 0 (es.map Ex.av).length),Z2p2 dp,(8,nV nx),Z2p3 i],Z2p5 es::nP nx⟩) (fun nx=>⟨[Z2p0 lf,Z2p1 n,(6,.row 312 0 (es.map Ex.av).length),Z2p2 dp,(8,nV nx)],Z2p5 es::nP nx⟩) (fun s=>s=(Z2pk lf)) (fun i nx=>n+nx.length≤lf∧∀x,x∈nx→ExS x) T (fun nx _=>by
  cases nx with
  |nil=>exact m120ez lf n dp es hes
  |cons a r=>exact m120es lf n dp es hes (a::r)) [] ⟨by simpa using hnl,by simp⟩ with ⟨s,h,rfl⟩|⟨nx,⟨h1,h2⟩,h⟩
 ·exact .inl h
 ·exact .inr ⟨nx,h1,h2,h⟩
abbrev Z2pl:St:=⟨[Z2p0 lf,Z2p1 n,(6,.row 312 0 (es.map Ex.av).length),Z2p2 dp],[Z2p5 es]⟩
theorem o120a (hes:(es.map Ex.av).length≤1048577) (hne:0<(es.map Ex.av).length) (hn:0≤n∧n≤1048577) (hlf:0≤lf∧lf≤1048577) (hd:0≤dp∧dp≤1048577) (hc:decide (lf<(n+((es.map Ex.av).length:Nat)))=true):En 75 (loopOf Tryz.f120 0) (Z2pl lf n dp es) (fun e t=>e= .ret∧t=(Z2pk lf)):=by
 exact gE ⟨rfl,rfl⟩ 0 [.is true,.is true] [4] [] (aC4 (show decide (0<(↑(es.map Ex.av).length:Int))=true from decide_eq_true (by omega)) (show IntKind.wrap .i64 (n+(↑(es.map Ex.av).length:Int))=n+(↑(es.map Ex.av).length:Int) from wrap64_id (by omega) (by omega)) hc (w1 lf (by omega)))
theorem o120b (hes:(es.map Ex.av).length≤1048577) (hne:0<(es.map Ex.av).length) (hn:0≤n∧n≤1048577) (hlf:0≤lf∧lf≤1048577) (hd:0≤dp∧dp≤1048577) (hc:decide (lf<(n+((es.map Ex.av).length:Nat)))=false) (hdp:decide (65536<dp)=true):En 75 (loopOf Tryz.f120 0) (Z2pl lf n dp es) (fun e t=>e= .ret∧t=(Z2pk lf)):=by
 exact gE ⟨rfl,rfl⟩ 0 [.is true,.is false,.is true] [4] [] (aC5 (show decide (0<(↑(es.map Ex.av).length:Int))=true from decide_eq_true (by omega)) (show IntKind.wrap .i64 (n+(↑(es.map Ex.av).length:Int))=n+(↑(es.map Ex.av).length:Int) from wrap64_id (by omega) (by omega)) hc hdp (w1 lf (by omega)))
abbrev Z2pd:Nat×AV:=(5,.int .i64 (n+((es.map Ex.av).length:Nat)))
abbrev Z2pm:St:=⟨[Z2p0 lf,Z2pd n es,(6,.row 312 0 (es.map Ex.av).length),Z2p2 dp,(8,.nils),Z2pc],[Z2p5 es]⟩
theorem o120c (hes:(es.map Ex.av).length≤1048577) (hne:0<(es.map Ex.av).length) (hn:0≤n∧n≤1048577) (hlf:0≤lf∧lf≤1048577) (hd:0≤dp∧dp≤1048577) (hc:decide (lf<(n+((es.map Ex.av).length:Nat)))=false) (hdp:decide (65536<dp)=false) (l120_1q:Lo 75 (loopOf Tryz.f120 1) (Z2pm lf n dp es) .ret (Z2pk lf)):En 75 (loopOf Tryz.f120 0) (Z2pl lf n dp es) (fun e t=>e= .ret∧t=(Z2pk lf)):=by
 have hl0:=l120_1q
 exact gE ⟨rfl,rfl⟩ 0 [.is true,.is false,.is false,.cut [1,5,6,7,8,9] [K1 312],.sum .ret [Z2pb lf] []] [4] [] (aC6 (show decide (0<(↑(es.map Ex.av).length:Int))=true from decide_eq_true (by omega)) (show IntKind.wrap .i64 (n+(↑(es.map Ex.av).length:Int))=n+(↑(es.map Ex.av).length:Int) from wrap64_id (by omega) (by omega)) hc hdp (zsy9e9 es) hl0)
abbrev Z2pe:Nat×AV:=(5,.int .i64 (n+(↑(es.map Ex.av).length:Int)))
theorem o120d (hes:(es.map Ex.av).length≤1048577) (hne:0<(es.map Ex.av).length) (hn:0≤n∧n≤1048577) (hlf:0≤lf∧lf≤1048577) (hd:0≤dp∧dp≤1048577) (hc:decide (lf<(n+((es.map Ex.av).length:Nat)))=false) (hdp:decide (65536<dp)=false) (l120_1q:Lo 75 (loopOf Tryz.f120 1) (Z2pm lf n dp es) (.exit 2) ⟨[Z2p0 lf,Z2pd n es,(6,.row 312 0 (es.map Ex.av).length),Z2p2 dp,(8,.nils)],[Z2p5 es]⟩):EN 75 (loopOf Tryz.f120 0) (Z2pl lf n dp es) ⟨[Z2p0 lf,Z2pd n es,(6,.nils),(7,.int .i64 (dp+1))],[]⟩:=by
 have hl0:=l120_1q
 exact gE ⟨rfl,rfl⟩ 0 [.is true,.is false,.is false,.cut [1,5,6,7,8,9] [K1 312],.sum (.exit 2) [Z2p0 lf,Z2pe n es,(6,.row 312 0 (es.map Ex.av).length),Z2p2 dp,(8,.nils)] [Z2p5 es]] [1,5,6,7] [] (aC7 (show decide (0<(↑(es.map Ex.av).length:Int))=true from decide_eq_true (by omega)) (show IntKind.wrap .i64 (n+(↑(es.map Ex.av).length:Int))=n+(↑(es.map Ex.av).length:Int) from wrap64_id (by omega) (by omega)) hc hdp (zsy9e9 es) hl0 (w1 dp (by omega)))
theorem o120e (hes:(es.map Ex.av).length≤1048577) (hne:0<(es.map Ex.av).length) (hn:0≤n∧n≤1048577) (hlf:0≤lf∧lf≤1048577) (hd:0≤dp∧dp≤1048577) (nx:List Ex) (hc:decide (lf<(n+((es.map Ex.av).length:Nat)))=false) (hdp:decide (65536<dp)=false) (l120_1q:Lo 75 (loopOf Tryz.f120 1) (Z2pm lf n dp es) (.exit 2) ⟨[Z2p0 lf,Z2pd n es,(6,.row 312 0 (es.map Ex.av).length),Z2p2 dp,(8,.row 372 0 (nx.map Ex.av).length)],[Z2p5 es,Z2p7 nx]⟩):EN 75 (loopOf Tryz.f120 0) (Z2pl lf n dp es) ⟨[Z2p0 lf,Z2pd n es,(6,.row 312 0 (nx.map Ex.av).length),(7,.int .i64 (dp+1))],[(312,.row 6 (nx.map Ex.av))]⟩:=by
 have hl0:=l120_1q
 exact gE ⟨rfl,rfl⟩ 0 [.is true,.is false,.is false,.cut [1,5,6,7,8,9] [K1 312],.sum (.exit 2) [Z2p0 lf,Z2pe n es,(6,.row 312 0 (es.map Ex.av).length),Z2p2 dp,(8,.row 372 0 (nx.map Ex.av).length)] [Z2p5 es,Z2p7 nx]] [1,5,6,7] [(372,.keep 312 true)] (aC8 (show decide (0<(↑(es.map Ex.av).length:Int))=true from decide_eq_true (by omega)) (show IntKind.wrap .i64 (n+(↑(es.map Ex.av).length:Int))=n+(↑(es.map Ex.av).length:Int) from wrap64_id (by omega) (by omega)) hc hdp (zsy9e9 es) hl0 (w1 dp (by omega)) (zsehlk nx))
theorem o120z:En 75 (loopOf Tryz.f120 0) ⟨[Z2p0 lf,Z2p1 n,(6,.nils),Z2p2 dp],[]⟩ (fun e t=>e= .exit 0∧t=⟨[Z2p1 n],[]⟩):=by
 exact gE ⟨rfl,rfl⟩ 0 [.is false] [5] [] (aC1 rF)
def lV:List Ex→AV
 |[]=> .nils
 |x::r=> .row 312 0 ((x::r).map Ex.av).length
def lP:List Ex→List (Nat×Ob)
 |[]=>[]
 |x::r=>[(312,.row 6 ((x::r).map Ex.av))]
theorem l120_0 (lf:Int) (hlf:0≤lf∧lf≤1048577):∀(m:Nat) (n dp:Int) (es:List Ex),lf-n<m→0≤n→n≤lf→0≤dp→dp≤n→(∀x,x∈es→ExS x)→es.length≤1048577→
  Lo 75 (loopOf Tryz.f120 0) ⟨[(1,.int .i64 lf),(5,.int .i64 n),(6,lV es),(7,.int .i64 dp)],lP es⟩ .ret ⟨[(4,.int .i64 (lf+1))],[]⟩∨∃n':Int,0≤n'∧n'≤lf∧Lo 75 (loopOf Tryz.f120 0) ⟨[(1,.int .i64 lf),(5,.int .i64 n),(6,lV es),(7,.int .i64 dp)],lP es⟩ (.exit 0) ⟨[(5,.int .i64 n')],[]⟩
 |0,n,dp,es,h1,h2,h3,_,_,_,_=>by omega
 |m+1,n,dp,es,h1,h2,h3,h4,h5,hS,hl=>by
  cases es with
  |nil=>
   obtain ⟨e,t,⟨rfl,rfl⟩,h⟩:=o120z lf n dp
   exact .inr ⟨n,h2,h3,.leave h (by simp)⟩
  |cons a q=>
   have hes:((a::q).map Ex.av).length≤1048577:=by rw [List.length_map];exact hl
   have hne:0<((a::q).map Ex.av).length:=by simp
   have hlm:((a::q).map Ex.av).length=(a::q).length:=List.length_map ..
   by_cases hc:lf<n+(((a::q).map Ex.av).length:Nat)
   ·obtain ⟨e,t,⟨rfl,rfl⟩,h⟩:=o120a lf n dp (a::q) hes hne ⟨h2,by omega⟩ hlf ⟨h4,by omega⟩ (decide_eq_true hc)
    exact .inl (.leave h (by simp))
   ·by_cases hdp:(65536:Int)<dp
    ·obtain ⟨e,t,⟨rfl,rfl⟩,h⟩:=o120b lf n dp (a::q) hes hne ⟨h2,by omega⟩ hlf ⟨h4,by omega⟩ (decide_eq_false hc) (decide_eq_true hdp)
     exact .inl (.leave h (by simp))
    ·rcases l120_1 lf (n+(((a::q).map Ex.av).length:Nat)) dp (a::q) hl hS ⟨by omega,by omega⟩ hlf (by omega) with hM|⟨nx,g1,g2,hM⟩
     ·obtain ⟨e,t,⟨rfl,rfl⟩,h⟩:=o120c lf n dp (a::q) hes hne ⟨h2,by omega⟩ hlf ⟨h4,by omega⟩ (decide_eq_false hc) (decide_eq_false hdp) hM
      exact .inl (.leave h (by simp))
     ·have turn:Rz 75 (loopOf Tryz.f120 0) ⟨[(1,.int .i64 lf),(5,.int .i64 n),(6,lV (a::q)),(7,.int .i64 dp)],lP (a::q)⟩ .normal ⟨[(1,.int .i64 lf),(5,.int .i64 (n+(((a::q).map Ex.av).length:Nat))),(6,lV nx),(7,.int .i64 (dp+1))],lP nx⟩:=by
       cases nx with
       |nil=>
        obtain ⟨e,t,⟨rfl,rfl⟩,h⟩:=o120d lf n dp (a::q) hes hne ⟨h2,by omega⟩ hlf ⟨h4,by omega⟩ (decide_eq_false hc) (decide_eq_false hdp) hM
        exact h
       |cons b r=>
        obtain ⟨e,t,⟨rfl,rfl⟩,h⟩:=o120e lf n dp (a::q) hes hne ⟨h2,by omega⟩ hlf ⟨h4,by omega⟩ (b::r) (decide_eq_false hc) (decide_eq_false hdp) hM
        exact h
      rcases l120_0 lf hlf m (n+(((a::q).map Ex.av).length:Nat)) (dp+1) nx (by omega) (by omega) (by omega) (by omega) (by omega) g2 (by omega) with hL|⟨n',k1,k2,hL⟩
      ·exact .inl (.turn turn hL)
      ·exact .inr ⟨n',k1,k2,.turn turn hL⟩
theorem b120r (e:Ex) (lf:Int) (l120_0q:Lo 75 (loopOf Tryz.f120 0) ⟨[(1,.int .i64 lf),(5,.int .i64 0),(6,.row 312 0 1),(7,.int .i64 0)],[(312,.row 6 [.agg e.cells])]⟩ .ret ⟨[(4,.int .i64 (lf+1))],[]⟩):En 75 (bodyOf Tryz.f120) ⟨[(0,.agg e.cells),(1,.int .i64 lf)],[]⟩ (fun e t=>e= .ret∧t=⟨[(4,.int .i64 (lf+1))],[]⟩):=by
 have hl0:=l120_0q
 exact gE ⟨rfl,rfl⟩ 300 [.cut [1,5,6,7] [K1 312],.sum .ret [(4,.int .i64 (lf+1))] []] [4] [] (aC2 rT hl0)
theorem b120e (e:Ex) (lf n:Int) (l120_0q:Lo 75 (loopOf Tryz.f120 0) ⟨[(1,.int .i64 lf),(5,.int .i64 0),(6,.row 312 0 1),(7,.int .i64 0)],[(312,.row 6 [.agg e.cells])]⟩ (.exit 0) ⟨[(5,.int .i64 n)],[]⟩):En 75 (bodyOf Tryz.f120) ⟨[(0,.agg e.cells),(1,.int .i64 lf)],[]⟩ (fun e t=>e= .ret∧t=⟨[(4,.int .i64 n)],[]⟩):=by
 have hl0:=l120_0q
 exact gE ⟨rfl,rfl⟩ 300 [.cut [1,5,6,7] [K1 312],.sum (.exit 0) [(5,.int .i64 n)] []] [4] [] (aC2 rT hl0)
theorem k120 (hlf:0≤lf∧lf≤1048577) (hS:ExS e):∃rn:Int,Sp 120 [.agg e.cells,.int .i64 lf] [] (.int .i64 rn) []∧0≤rn∧rn≤lf+1:=by
 have e0:(Ex.av e)= .agg e.cells:=Ex.av_eq e
 have hL0:=l120_0 lf hlf (lf.toNat+1) 0 0 [e] (by omega) (by omega) (by omega) (by omega) (by omega) (fun x hx=>by rw [List.mem_singleton.1 hx];exact hS) (by simp)
 have e1:lP [e]=[(312,.row 6 [.agg e.cells])]:=by rw [←e0];rfl
 rw [e1] at hL0
 rcases hL0 with hL|⟨n,h1,h2,hL⟩
 ·obtain ⟨e',t,⟨rfl,rfl⟩,h⟩:=b120r e lf hL
  exact ⟨lf+1,sP Tryz.f120 (by have hi:=noIds_ex e;rw [Ex.av_eq] at hi;simpa [noIdsL,noIds] using hi) h (.inr rfl),by omega,by omega⟩
 ·obtain ⟨e',t,⟨rfl,rfl⟩,h⟩:=b120e e lf n hL
  exact ⟨n,sP Tryz.f120 (by have hi:=noIds_ex e;rw [Ex.av_eq] at hi;simpa [noIdsL,noIds] using hi) h (.inr rfl),h1,by omega⟩
end
section
variable (p:ByteArray) (hd:List Ar) (bd:List Li) (x:Li) (rules:List Ru) (lf n:Int)
def LiS (x:Li):Prop:=ExS x.l∧ExS x.r∧x.ts.length<10000000000000
def RuS (r:Ru):Prop:=r.hd.length<10000000000000∧r.bd.length<10000000000000∧∀x,x∈r.bd→LiS x
abbrev Z2q6:St:=⟨[(0,x.av),(1,.int .i64 lf)],[]⟩
theorem b70a (hlf:0≤lf∧lf≤1048577) (r0:Int) (h0:0≤r0∧r0≤lf+1) (htl:(x.ts.map Tm.av).length<10000000000000) (k120p:Sp 120 [.agg x.l.cells,.int .i64 lf] [] (.int .i64 r0) []) (hc:decide (lf<(1+((x.ts.map Tm.av).length:Nat)+r0))=true):En 29 (bodyOf Tryz.f70) (Z2q6 x lf) (fun e t=>e= .ret∧t=⟨[(4,.int .i64 (lf+1))],[]⟩):=by
 exact gE ⟨rfl,rfl⟩ 0 [.call (.int .i64 r0) [] [],.is true] [4] [] (aC5 (show IntKind.wrap .i64 (1+(↑(List.length (List.map Tm.av x.3)):Int))=1+(↑(List.length (List.map Tm.av x.3)):Int) from wrap64_id (by omega) (by omega)) k120p (show IntKind.wrap .i64 (1+(↑(List.length (List.map Tm.av x.3)):Int)+r0)=1+(↑(List.length (List.map Tm.av x.3)):Int)+r0 from wrap64_id (by omega) (by omega)) hc (w1 lf (by omega)))
theorem b70b (hlf:0≤lf∧lf≤1048577) (r0:Int) (h0:0≤r0∧r0≤lf+1) (htl:(x.ts.map Tm.av).length<10000000000000) (k120p:Sp 120 [.agg x.l.cells,.int .i64 lf] [] (.int .i64 r0) []) (hq:(1+((x.ts.map Tm.av).length:Nat)+r0)≤lf) (hc:decide (lf<(1+((x.ts.map Tm.av).length:Nat)+r0))=false) (r3:Int) (h3:0≤r3∧r3≤lf+1) (k120:Sp 120 [.agg x.r.cells,.int .i64 (lf-(1+((x.ts.map Tm.av).length:Nat)+r0))] [] (.int .i64 r3) []):En 29 (bodyOf Tryz.f70) (Z2q6 x lf) (fun e t=>e= .ret∧t=⟨[(4,.int .i64 ((1+((x.ts.map Tm.av).length:Nat)+r0)+r3))],[]⟩):=by
 exact gE ⟨rfl,rfl⟩ 0 [.call (.int .i64 r0) [] [],.is false,.call (.int .i64 r3) [] []] [4] [] (aC7 (show IntKind.wrap .i64 (1+(↑(List.length (List.map Tm.av x.3)):Int))=1+(↑(List.length (List.map Tm.av x.3)):Int) from wrap64_id (by omega) (by omega)) k120p (show IntKind.wrap .i64 (1+(↑(List.length (List.map Tm.av x.3)):Int)+r0)=1+(↑(List.length (List.map Tm.av x.3)):Int)+r0 from wrap64_id (by omega) (by omega)) hc (show IntKind.wrap .i64 (lf-(1+(↑(List.length (List.map Tm.av x.3)):Int)+r0))=lf-(1+(↑(List.length (List.map Tm.av x.3)):Int)+r0) from wrap64_id (by omega) (by omega)) k120 (show IntKind.wrap .i64 (1+(↑(List.length (List.map Tm.av x.3)):Int)+r0+r3)=1+(↑(List.length (List.map Tm.av x.3)):Int)+r0+r3 from wrap64_id (by omega) (by omega)))
theorem k70 (hlf:0≤lf∧lf≤1048577) (hx:LiS x):∃rn:Int,Sp 70 [x.av,.int .i64 lf] [] (.int .i64 rn) []∧0≤rn∧rn≤lf+1:=by
 obtain ⟨hl,hr,ht⟩:=hx
 have htl:(x.ts.map Tm.av).length<10000000000000:=by rw [List.length_map];exact ht
 obtain ⟨r0,s0,a0,a1⟩:=k120 x.l lf hlf hl
 have fin:∀rn:Int,Rz 29 (bodyOf Tryz.f70) (Z2q6 x lf) .ret ⟨[(4,.int .i64 rn)],[]⟩→Sp 70 [x.av,.int .i64 lf] [] (.int .i64 rn) []:=fun rn h=>
  sP Tryz.f70 (by simp [noIdsL,noIds_li]) h (.inr rfl)
 by_cases hc:lf<(1+((x.ts.map Tm.av).length:Nat)+r0)
 ·obtain ⟨e,t,⟨rfl,rfl⟩,h⟩:=b70a x lf hlf r0 ⟨a0,a1⟩ htl s0 (decide_eq_true hc)
  exact ⟨_,fin _ h,by omega,by omega⟩
 ·obtain ⟨r3,s3,c0,c1⟩:=k120 x.r (lf-(1+((x.ts.map Tm.av).length:Nat)+r0)) ⟨by omega,by omega⟩ hr
  obtain ⟨e,t,⟨rfl,rfl⟩,h⟩:=b70b x lf hlf r0 ⟨a0,a1⟩ htl s0 (by omega) (decide_eq_false hc) r3 ⟨c0,by omega⟩ s3
  exact ⟨_,fin _ h,by omega,by omega⟩
theorem t34 (hn:1≤n∧n≤20000000000000) (hq:n≤1048576) (hS:∀x,x∈bd→LiS x) (hll:(bd.map Li.av).length=bd.length) (hbl:(bd.map Li.av).length<10000000000000) (i:Nat) (hi:i<bd.length):En 35 (loopOf Tryz.f34 0) ⟨[(1,.int .i64 1048576),(2,.tptr [.str p,.seq (hd.map Ar.av) false,.seq (bd.map Li.av) false]),(5,.int .i64 n),(6,.int .i64 (i:Int))],[]⟩ (fun e t=>e= .normal∧∃m:Int,(1≤m∧m≤20000000000000)∧t=⟨[(1,.int .i64 1048576),(2,.tptr [.str p,.seq (hd.map Ar.av) false,.seq (bd.map Li.av) false]),(5,.int .i64 m),(6,.int .i64 ((i+1:Nat):Int))],[]⟩):=by
 obtain ⟨x0,hm0,hx0⟩:=elt_of Li.av (l:=bd) (n:=(↑i:Int)) (by omega) (by omega)
 obtain ⟨r1,⟨hs2,hs2'⟩⟩:=k70 x0 (1048576-n) (by omega) (hS _ (List.mem_of_getElem? (by assumption)))
 exact ⟨Out.normal,St.mk [(1,AV.int .i64 1048576),(2,AV.tptr [AV.str p,AV.seq (List.map Ar.av hd) false,AV.seq (List.map Li.av bd) false]),(5,AV.int .i64 (n+r1)),(6,AV.int .i64 ((↑i:Int)+1))] [],⟨rfl,_,by omega,rfl⟩,gA 0 [.is true,.is true,.elt (.agg x0.cells),.call (.int .i64 r1) [] []] [1,2,5,6] [] (by kernel_rfl) (aC7 (show decide ((i:Int)<(↑(bd.map Li.av).length:Int))=true from decide_eq_true (by omega)) (show decide (n≤1048576)=true from decide_eq_true (by omega)) hx0 (show IntKind.wrap .i64 (1048576-n)=1048576-n from wrap64_id (by omega) (by omega)) hs2 (show IntKind.wrap .i64 (n+r1)=n+r1 from wrap64_id (by omega) (by omega)) (w1 i (by omega)))⟩
theorem e34a (hn:1≤n∧n≤20000000000000):En 35 (loopOf Tryz.f34 0) ⟨[(1,.int .i64 1048576),(2,.tptr [.str p,.seq (hd.map Ar.av) false,.seq (bd.map Li.av) false]),(5,.int .i64 n),(6,.int .i64 ((bd.length:Nat):Int))],[]⟩ (fun e t=>e= .exit 0∧t=⟨[(5,.int .i64 n)],[]⟩):=by
 exact gE ⟨rfl,rfl⟩ 0 [.is false] [5] [] (aC1 (zsvzxo bd))
theorem e34b (hn:1≤n∧n≤20000000000000) (hq:1048576<n) (hll:(bd.map Li.av).length=bd.length) (i:Nat) (hi:i<bd.length):En 35 (loopOf Tryz.f34 0) ⟨[(1,.int .i64 1048576),(2,.tptr [.str p,.seq (hd.map Ar.av) false,.seq (bd.map Li.av) false]),(5,.int .i64 n),(6,.int .i64 (i:Int))],[]⟩ (fun e t=>e= .exit 0∧t=⟨[(5,.int .i64 n)],[]⟩):=by
 exact gE ⟨rfl,rfl⟩ 0 [.is true,.is false] [5] [] (aC2 (show decide ((i:Int)<(↑(bd.map Li.av).length:Int))=true from decide_eq_true (by omega)) (show decide (n≤1048576)=false from decide_eq_false (by omega)))
abbrev Z2q0:Nat×AV:=(1,.int .i64 1048576)
abbrev Z2q1:Nat×AV:=(2,.tptr [.str p,.seq (hd.map Ar.av) false,.seq (bd.map Li.av) false])
theorem l34_0 (p:ByteArray) (hd:List Ar) (bd:List Li) (hS:∀x,x∈bd→LiS x) (hbl:bd.length<10000000000000):∀(m i:Nat) (n:Int),i+m=bd.length→(1≤n∧n≤20000000000000)→
  ∃n':Int,(1≤n'∧n'≤20000000000000)∧Lo 35 (loopOf Tryz.f34 0) ⟨[Z2q0,Z2q1 p hd bd,(5,.int .i64 n),(6,.int .i64 (i:Int))],[]⟩ (.exit 0) ⟨[(5,.int .i64 n')],[]⟩
 |0,i,n,him,hn=>by
  have:i=bd.length:=by omega
  subst this
  obtain ⟨e,t,⟨rfl,rfl⟩,h⟩:=e34a p hd bd n hn
  exact ⟨n,hn,.leave h (by simp)⟩
 |m+1,i,n,him,hn=>by
  have hll:(bd.map Li.av).length=bd.length:=List.length_map ..
  by_cases hq:n≤1048576
  ·obtain ⟨e,t,⟨rfl,n2,hn2,rfl⟩,h⟩:=t34 p hd bd n hn hq hS hll (by omega) i (by omega)
   obtain ⟨n',h1,hL⟩:=l34_0 p hd bd hS hbl m (i+1) n2 (by omega) hn2
   exact ⟨n',h1,.turn h hL⟩
  ·obtain ⟨e,t,⟨rfl,rfl⟩,h⟩:=e34b p hd bd n hn (by omega) hll i (by omega)
   exact ⟨n,hn,.leave h (by simp)⟩
abbrev Z2q2:Nat×AV:=(4,.int .i64 0)
theorem b34 (hhl:(hd.map Ar.av).length<10000000000000) (n:Int) (l34_0q:Lo 35 (loopOf Tryz.f34 0) ⟨[Z2q0,Z2q1 p hd bd,(5,.int .i64 (1+((hd.map Ar.av).length:Nat))),(6,.int .i64 0)],[]⟩ (.exit 0) ⟨[(5,.int .i64 n)],[]⟩):En 35 (restC 1 (bodyOf Tryz.f34)) ⟨[Z2q0,Z2q1 p hd bd,Z2q2],[]⟩ (fun e t=>e= .ret∧t=⟨[(4,.int .i64 n)],[]⟩):=by
 have hl0:=l34_0q
 exact gE ⟨rfl,rfl⟩ 0 [.cut [1,2,5,6] [],.sum (.exit 0) [(5,.int .i64 n)] []] [4] [] (aC2 (show IntKind.wrap .i64 (1+(↑(hd.map Ar.av).length:Int))=1+(↑(hd.map Ar.av).length:Int) from wrap64_id (by omega) (by omega)) hl0)
theorem w34:EN 35 (partC 0 (bodyOf Tryz.f34)) ⟨[(0,.agg [.str p,.seq (hd.map Ar.av) false,.seq (bd.map Li.av) false]),Z2q0],[]⟩ ⟨[Z2q0,Z2q1 p hd bd,Z2q2],[]⟩:=by
 exact gE ⟨rfl,rfl⟩ 0 [] [1,2,4] [(2,.freeze)] (aC1 rT)
theorem k34 (hr:RuS ⟨p,hd,bd⟩):∃rn:Int,Sp 34 [.agg [.str p,.seq (hd.map Ar.av) false,.seq (bd.map Li.av) false],.int .i64 1048576] [] (.int .i64 rn) []∧1≤rn∧rn≤20000000000000:=by
 obtain ⟨h1,h2,h3⟩:=hr
 simp only at h1 h2 h3
 have hhl:(hd.map Ar.av).length<10000000000000:=by rw [List.length_map];exact h1
 obtain ⟨n,hn,hL⟩:=l34_0 p hd bd h3 h2 bd.length 0 (1+((hd.map Ar.av).length:Nat)) (by omega) ⟨by omega,by omega⟩
 obtain ⟨e,t,⟨rfl,rfl⟩,r0⟩:=w34 p hd bd
 obtain ⟨e,t,⟨rfl,rfl⟩,h⟩:=b34 p hd bd hhl n hL
 exact ⟨n,sP Tryz.f34 (by simp [noIdsL,noIds]) (Runs.nth 0 (by kernel_rfl) r0 h) (.inr rfl),hn.1,hn.2⟩
abbrev Z2q3:Nat×AV:=(0,.seq (rules.map Ru.av) false)
abbrev Z2q4:Nat×AV:=(2,.bool true)
abbrev Z2q7 (i:Nat):St:=⟨[Z2q3 rules,(3,.int .i64 n),(4,.int .i64 (i:Int))],[]⟩
abbrev Z2q8:St:=⟨[Z2q4],[]⟩
theorem t43 (hn:0≤n∧n≤1048576) (hS:∀r,r∈rules→RuS r) (hll:(rules.map Ru.av).length=rules.length) (i:Nat) (hi:i<rules.length) (hsm:rules.length<10000000000000):En 20 (loopOf Tryz.f43 0) (Z2q7 rules n i) (fun e t=>(e= .ret∧t=Z2q8)∨(e= .normal∧∃m:Int,(n+1≤m∧m≤1048576)∧t=⟨[Z2q3 rules,(3,.int .i64 m),(4,.int .i64 ((i+1:Nat):Int))],[]⟩)):=by
 obtain ⟨x0,hm0,hx0⟩:=elt_of Ru.av (l:=rules) (n:=(↑i:Int)) (by omega) (by omega)
 obtain ⟨r1,⟨hs2,hs2'⟩⟩:=k34 x0.1 x0.2 x0.3 (hS _ (List.mem_of_getElem? (by assumption)))
 rcases bft (decide (1048576<n+r1)) with h3|h3
 ·exact gE (.inl ⟨rfl,rfl⟩) 0 [.is true,.elt (.agg [.str x0.1,.seq (List.map Ar.av x0.2) false,.seq (List.map Li.av x0.3) false]),.call (.int .i64 r1) [] [],.is true] [2] [] (aC5 (show decide ((i:Int)<(↑(rules.map Ru.av).length:Int))=true from decide_eq_true (by omega)) hx0 hs2 (show IntKind.wrap .i64 (n+r1)=n+r1 from wrap64_id (by omega) (by omega)) h3)
 ·exact ⟨Out.normal,St.mk [Z2q3 rules,(3,.int .i64 (n+r1)),(4,.int .i64 ((i:Int)+1))] [],.inr ⟨rfl,_,by first|omega|(simp at*;omega),rfl⟩,gA 0 [.is true,.elt (.agg [.str x0.1,.seq (List.map Ar.av x0.2) false,.seq (List.map Li.av x0.3) false]),.call (.int .i64 r1) [] [],.is false] [0,3,4] [] (by kernel_rfl) (aC6 (show decide ((i:Int)<(↑(rules.map Ru.av).length:Int))=true from decide_eq_true (by omega)) hx0 hs2 (show IntKind.wrap .i64 (n+r1)=n+r1 from wrap64_id (by omega) (by omega)) h3 (w1 i (by omega)))⟩
theorem e43:En 20 (loopOf Tryz.f43 0) ⟨[Z2q3 rules,(3,.int .i64 n),(4,.int .i64 ((rules.length:Nat):Int))],[]⟩ (fun e t=>e= .exit 0∧t=⟨[],[]⟩):=by
 exact gE ⟨rfl,rfl⟩ 0 [.is false] [] [] (aC1 (zsrv5t rules))
abbrev Z2q5:Nat×AV:=(3,.int .i64 0)
abbrev Z2q9:St:=⟨[Z2q3 rules,Z2q5,Z2q2],[]⟩
theorem l43_0 (hS:∀r,r∈rules→RuS r) (hsm:rules.length<10000000000000):
  Lo 20 (loopOf Tryz.f43 0) (Z2q9 rules) .ret Z2q8∨(rules.length≤1048576∧Lo 20 (loopOf Tryz.f43 0) (Z2q9 rules) (.exit 0) ⟨[],[]⟩):=by
 rcases inv_loop (P:=Tryz.prog) (n:=20) (c:=loopOf Tryz.f43 0) (N:=rules.length) (k:=0) (γ:=Int) (fun i n=>⟨[Z2q3 rules,(3,.int .i64 n),(4,.int .i64 (i:Int))],[]⟩) (fun _=>⟨[],[]⟩) (fun s=>s=Z2q8) (fun i n=>(i:Int)≤n∧n≤1048576) (fun i n hi hn=>by
  obtain ⟨e,t,⟨rfl,rfl⟩|⟨rfl,m,hm,rfl⟩,h⟩:=t43 rules n ⟨by omega,hn.2⟩ hS (List.length_map ..) i hi hsm
  ·exact ⟨_,_,.inl ⟨rfl,rfl⟩,h⟩
  ·exact ⟨_,_,.inr ⟨rfl,m,⟨by omega,hm.2⟩,rfl⟩,h⟩) (fun n _=>e43 rules n) 0 (by simp) with ⟨s,h,rfl⟩|⟨n,hn,h⟩
 ·exact .inl h
 ·exact .inr ⟨by omega,h⟩
theorem b43r (l43_0q:Lo 20 (loopOf Tryz.f43 0) (Z2q9 rules) .ret Z2q8):En 20 (bodyOf Tryz.f43) ⟨[Z2q3 rules],[]⟩ (fun e t=>e= .ret∧t=Z2q8):=by
 have hl0:=l43_0q
 exact gE ⟨rfl,rfl⟩ 0 [.cut [0,3,4] [],.sum .ret [Z2q4] []] [2] [] (aC1 hl0)
theorem b43e (l43_0q:Lo 20 (loopOf Tryz.f43 0) (Z2q9 rules) (.exit 0) ⟨[],[]⟩):En 20 (bodyOf Tryz.f43) ⟨[Z2q3 rules],[]⟩ (fun e t=>e= .ret∧t=⟨[(2,.bool false)],[]⟩):=by
 have hl0:=l43_0q
 exact gE ⟨rfl,rfl⟩ 0 [.cut [0,3,4] [],.sum (.exit 0) [] []] [2] [] (aC1 hl0)
theorem k43 (hS:∀r,r∈rules→RuS r) (hsm:rules.length<10000000000000):∃rb:Bool,Sp 43 [.seq (rules.map Ru.av) false] [] (.bool rb) []∧(rb=false→rules.length≤1048576):=by
 rcases l43_0 rules hS hsm with hL|⟨h1,hL⟩
 ·obtain ⟨e,t,⟨rfl,rfl⟩,h⟩:=b43r rules hL
  exact ⟨true,sQ Tryz.f43 h,fun h=>by cases h⟩
 ·obtain ⟨e,t,⟨rfl,rfl⟩,h⟩:=b43e rules hL
  exact ⟨false,sQ Tryz.f43 h,fun _=>h1⟩
end
end Go.Ped
namespace Go.Ped
open Go.RowKit Go.Proofs Go.WideShapes Go.Deep Go.ChangeShapes
section
section
variable {S:Blk} {β:Beta} {w:World}
theorem Each.app {xs ys:List Value} {us vs:List AV} (h1:Each S β w xs us) (h2:Each S β w ys vs):Each S β w (xs++ys) (us++vs):=by
 refine ⟨by rw [List.length_append,List.length_append,h1.1,h2.1],fun i v x hv hx=> ?_⟩
 by_cases hi:i<xs.length
 ·rw [List.getElem?_append_left hi] at hv
  rw [List.getElem?_append_left (by rw [←h1.1];exact hi)] at hx
  exact h1.2 i v x hv hx
 ·rw [List.getElem?_append_right (by omega)] at hv
  rw [List.getElem?_append_right (by rw [←h1.1];omega),←h1.1] at hx
  exact h2.2 _ v x hv hx
theorem Each.cat {cs:List Value} {A B:List AV} (o a:Nat) (h1:Each S β w (List.take a (List.drop o cs)) A) (h2:Each S β w (List.drop (o+a) cs) B):Each S β w (List.drop o cs) (A++B):=by
 have h:=h1.app h2
 rw [←List.drop_drop,List.take_append_drop] at h
 exact h
theorem Each.last {cs:List Value} {A:List AV} (o a:Nat) (h:Each S β w (List.take a (List.drop o cs)) A) (hl:cs.length≤o+a):Each S β w (List.drop o cs) A:=by
 rw [List.take_of_length_le (by rw [List.length_drop];omega)] at h
 exact h
end
def Fit {H:Type} (P:Program) (t:TypeId) (d:DataW H):Prop:=(d.weights P t).all (· ≤reachBytes)=true
section
variable {H:Type} {P:Program}
theorem Fit.field {t:TypeId} {fs:Array Field} {parts:List (DataW H)} (j:Nat) {f:Field} {d:DataW H} (ht:P.underlying t=some (.struct fs)) (h:Fit P t (.agg parts)) (hf:fs[j]? =some f) (hd:parts[j]? =some d):Fit P f.type d:=by
 refine List.all_eq_true.2 fun x hx=> ?_
 unfold Fit at h
 simp only [DataW.weights,ht] at h
 refine List.all_eq_true.1 h x (DataW.weights_mem_each (j:=j) (t:=f.type) (d:=d) ?_ hd x hx)
 rw [List.getElem?_map,Array.getElem?_toList,hf]
 rfl
theorem mem_weightsAll {e:TypeId} {d:DataW H} {n:Nat} (hn:n∈d.weights P e):∀{l:List (DataW H)},d∈l→n∈DataW.weightsAll P e l
 |x::r,hd=>by
  rw [DataW.weightsAll,List.mem_append]
  rcases List.mem_cons.1 hd with rfl|h
  ·exact .inl hn
  ·exact .inr (mem_weightsAll hn h)
theorem Fit.elem {t e:TypeId} {elems spare:List (DataW H)} {d:DataW H} (ht:P.underlying t=some (.slice e)) (h:Fit P t (.slice elems spare)) (hd:d∈elems):Fit P e d:=by
 refine List.all_eq_true.2 fun x hx=> ?_
 unfold Fit at h
 simp only [DataW.weights,ht] at h
 exact List.all_eq_true.1 h x (List.mem_cons.2 (.inr (List.mem_append.2 (.inl (mem_weightsAll hx hd)))))
theorem Fit.len {t e:TypeId} {elems spare:List (DataW H)} (ht:P.underlying t=some (.slice e)) (h:Fit P t (.slice elems spare)):elems.length*P.bytesOf e≤reachBytes:=by
 unfold Fit at h
 simp only [DataW.weights,ht,List.all_cons,Bool.and_eq_true,decide_eq_true_eq] at h
 exact Nat.le_trans (Nat.mul_le_mul_right _ (Nat.le_add_right _ _)) h.1
end
section
variable {H:Type} {enc:TypeId×Value→H} {P:Program} {w:World} {base:Nat} {sp:Nat→Bool} {held:Bool}
theorem V_sliceW {X:Type} [Inhabited X] (f:X→AV) (Good:X→Prop) {t e:TypeId} {size fuel:Nat} {cs:List Value} {x:DataW H×List MemPlace} (ht:P.underlying t=some (.slice e)) (hc:P.cellsOf e=size) (hpos:0<size)
  (hfit:Fit P t x.1)
  (helem:∀(n:Nat) (cs:List Value) (y:DataW H×List MemPlace),DataW.trod enc P w base sp held n e cs=some y→Fit P e y.1→SizeOf.sizeOf y.1<SizeOf.sizeOf x.1→∃q:X,Each (allB w) noB w cs (f q).cells∧(f q).cells.length=size∧Good q)
  (h:DataW.trod enc P w base sp held fuel t cs=some x):
  ∃(v:Value) (l:List X),cs=[v]∧V (allB w) noB w v (.seq (l.map f) false)∧(∀q,q∈l→Good q)∧l.length*P.bytesOf e≤reachBytes:=by
 rcases open_slice ht h with ⟨rfl,rfl⟩|⟨a,len,cap,m,n,D,Pl,rfl,hb,hl,hm,hmm,rfl,hx⟩
 ·exact ⟨_,[],rfl,.seq none 0 0 0 0 [] false (fun _ _=>undef) (by simp) (by simp [maxLen]) (fun h=>by cases h) (fun h=>absurd rfl h) (by simp) (by simp) (by simp),by simp,by simp⟩
 ·have hlm:len≤m:=by rw [hmm];split<;>omega
  have hDm:∀i,i<len→D i∈(List.range len).map D:=fun i hi=>List.mem_map.2 ⟨i,List.mem_range.2 hi,rfl⟩
  have hDs:∀i,i<len→SizeOf.sizeOf (D i)<SizeOf.sizeOf (DataW.slice ((List.range len).map D) ((List.range (m-len)).map fun j=>D (len+j))):=fun i hi=>by
   have:=List.sizeOf_lt_of_mem (hDm i hi)
   rw [DataW.slice.sizeOf_spec]
   omega
  obtain ⟨C,hC⟩:=choose_lt (α:=List Value) (n:=len) (p:=fun i cs'=>w.cells? base (a.add (i*P.cellsOf e)) (P.cellsOf e)=some cs'∧∃y,DataW.trod enc P w base sp held n e cs'=some y∧y.1=D i) (fun i hi=>by
   obtain ⟨cs',h1,h2⟩:=hx i (by omega)
   exact ⟨cs',h1,_,h2,rfl⟩)
  obtain ⟨Q,hQ⟩:=choose_lt (α:=X) (n:=len) (p:=fun i q=>Each (allB w) noB w (C i) (f q).cells∧(f q).cells.length=size∧Good q) (fun i hi=>by
   obtain ⟨_,y,hy,hyD⟩:=hC i hi
   exact helem n _ y hy (by rw [hyD];exact hfit.elem ht (hDm i hi)) (by rw [hyD];exact hDs i hi))
  have raw:∀i j,i<len→j<size→∃u,(C i)[j]? =some u∧w.cell? (a.add (i*size+j))=some u:=by
   intro i j hi hj
   obtain ⟨h1,_⟩:=hC i hi
   obtain ⟨_,h2,h3⟩:=World.cells?_some h1
   rw [hc] at h2 h3
   have h4:=h3 j hj
   have hlt:j<(C i).length:=by omega
   refine ⟨(C i)[j],List.getElem?_eq_getElem hlt,?_⟩
   rw [List.getElem?_eq_getElem hlt,add_add] at h4
   exact h4
  have hspot:0<len→a.spot=none:=by
   intro h0
   obtain ⟨u,_,h2⟩:=raw 0 0 h0 hpos
   have:=World.cell?_spot h2
   simpa [Addr.add] using this
  have hcell:∀i j,i<len→j<size→∃u,(C i)[j]? =some u∧w.cell? ⟨a.block,a.off+i*size+j,none⟩=some u:=by
   intro i j hi hj
   obtain ⟨u,h1,h2⟩:=raw i j hi hj
   have hsp:=hspot (by omega)
   refine ⟨u,h1,?_⟩
   obtain ⟨b,o,s⟩:=a
   simp only at hsp
   subst hsp
   rw [Addr.add_lit,←Nat.add_assoc] at h2
   exact h2
  refine ⟨_,(List.range len).map Q,rfl,?_,fun q hq=> ?_,?_⟩
  ·have hlen:((List.range len).map Q).length=len:=by simp
   have get:∀{i:Nat} {e':AV},(((List.range len).map Q).map f)[i]? =some e'→i<len∧e'=f (Q i):=by
    intro i e' he
    rw [List.getElem?_map,List.getElem?_map] at he
    have hi:i<len:=by
     apply Nat.lt_of_not_le
     intro h
     rw [List.getElem?_eq_none (by simpa using h)] at he
     cases he
    rw [List.getElem?_range hi] at he
    simp only [Option.map_some] at he
    injection he with he
    exact ⟨hi,he.symm⟩
   have hV:=V.seq (S:=allB w) (β:=noB) (w:=w) (some a) cap size a.block a.off (((List.range len).map Q).map f) false (fun i j=>(C i).getD j undef) (by simpa using hl) hm (fun h=>by cases h)
    (fun hne=>by
     have h0:0<len:=by
      apply Nat.pos_of_ne_zero
      rintro rfl
      exact hne rfl
     obtain ⟨u,_,h2⟩:=hcell 0 0 h0 hpos
     have h3:=hspot h0
     have hlt:=cell_lt h2
     obtain ⟨b,o,s⟩:=a
     simp only at h3
     subst h3
     exact ⟨rfl,hlt⟩)
    (fun i e' he=>by
     obtain ⟨hi,rfl⟩:=get he
     exact (hQ i hi).2.1)
    (fun i j e' c he hcj=>by
     obtain ⟨hi,rfl⟩:=get he
     have hj:j<size:=by rw [←(hQ i hi).2.1];exact (List.getElem?_eq_some_iff.1 hcj).1
     obtain ⟨u,h1,h2⟩:=hcell i j hi hj
     rw [List.getD_eq_getElem?_getD,h1]
     exact h2)
    (fun i j e' c he hcj=>by
     obtain ⟨hi,rfl⟩:=get he
     have hj:j<size:=by rw [←(hQ i hi).2.1];exact (List.getElem?_eq_some_iff.1 hcj).1
     obtain ⟨u,h1,_⟩:=hcell i j hi hj
     rw [List.getD_eq_getElem?_getD,h1]
     exact (hQ i hi).1.2 j u c h1 hcj)
   simpa using hV
  ·obtain ⟨i,hi,rfl⟩:=List.mem_map.1 hq
   exact (hQ i (List.mem_range.1 hi)).2.2
  ·have:=hfit.len ht
   simpa using this
theorem E_int {k:IntKind} {t:TypeId} {fuel:Nat} {cs:List Value} {x:DataW H×List MemPlace} (ht:P.underlying t=some (.int k)) (h:DataW.trod enc P w base sp held fuel t cs=some x):∃n:Int,Each (allB w) noB w cs [.int k n]:=by
 obtain ⟨n,rfl,_⟩:=DataW.trod_int ht h
 exact ⟨n,Each.one1 (.int _ _)⟩
theorem E_text {t:TypeId} {fuel:Nat} {cs:List Value} {x:DataW H×List MemPlace} (ht:P.underlying t=some .string) (h:DataW.trod enc P w base sp held fuel t cs=some x):∃s:ByteArray,Each (allB w) noB w cs [.str s]:=by
 obtain ⟨s,rfl,_⟩:=E_str ht h
 exact ⟨s,Each.one1 (.str s)⟩
end
section
variable {H:Type} {enc:TypeId×Value→H} {w:World} {base:Nat} {sp:Nat→Bool} {held:Bool}
theorem cells22:Tryz.prog.cellsOf 22=1:=by kernel_rfl
theorem cells9:Tryz.prog.cellsOf 9=1:=by kernel_rfl
theorem cells24:Tryz.prog.cellsOf 24=2:=by kernel_rfl
theorem cells37:Tryz.prog.cellsOf 37=4:=by kernel_rfl
theorem cells35:Tryz.prog.cellsOf 35=3:=by kernel_rfl
theorem cells40:Tryz.prog.cellsOf 40=6:=by kernel_rfl
theorem cells42:Tryz.prog.cellsOf 42=16:=by kernel_rfl
theorem cells66:Tryz.prog.cellsOf 66=3:=by kernel_rfl
theorem cells105:Tryz.prog.cellsOf 105=5:=by kernel_rfl
theorem bytes37:Tryz.prog.bytesOf 37=48:=by kernel_rfl
theorem bytes40:Tryz.prog.bytesOf 40=80:=by kernel_rfl
theorem bytes42:Tryz.prog.bytesOf 42=216:=by kernel_rfl
theorem bytes66:Tryz.prog.bytesOf 66=64:=by kernel_rfl
theorem bytes105:Tryz.prog.bytesOf 105=56:=by kernel_rfl
theorem reachV:reachBytes=140737488351232:=rfl
instance:Inhabited Tm:=⟨zTm⟩
instance:Inhabited Ar:=⟨⟨0,zTm⟩⟩
instance:Inhabited Ex:=⟨.mk 0 zTm []⟩
instance:Inhabited Li:=⟨⟨0,⟨#[]⟩,[],0,.mk 0 zTm [],.mk 0 zTm []⟩⟩
instance:Inhabited Ru:=⟨⟨⟨#[]⟩,[],[]⟩⟩
theorem readTm {n:Nat} {cs:List Value} {y:DataW H×List MemPlace} (h:DataW.trod enc Tryz.prog w base sp held n 37 cs=some y):∃q:Tm,Each (allB w) noB w cs q.av.cells:=by
 obtain ⟨xs,m,rfl,_,hlen,hxs,hf⟩:=DataW.trod_struct Tryz.underlying37 h
 rw [cells37] at hlen
 have hxs:xs.length=2:=hxs
 have f0:=hf 0 ⟨"Var",9,0,false,"","",0⟩ rfl
 have f1:=hf 1 ⟨"Val",35,1,false,"","",16⟩ rfl
 rw [List.getElem?_eq_getElem (by omega)] at f0 f1
 obtain ⟨v,e0⟩:=E_text Tryz.underlying9 f0
 obtain ⟨ys,m',_,_,_,hys,hg⟩:=DataW.trod_struct Tryz.underlying35 f1
 have hys:ys.length=3:=hys
 have g0:=hg 0 ⟨"Kind",33,0,false,"","",0⟩ rfl
 have g1:=hg 1 ⟨"Num",2,1,false,"","",8⟩ rfl
 have g2:=hg 2 ⟨"Text",9,2,false,"","",16⟩ rfl
 rw [List.getElem?_eq_getElem (by omega)] at g0 g1 g2
 obtain ⟨k,e1⟩:=E_int (show Tryz.prog.underlying 33=some (.int .i8) by kernel_rfl) g0
 obtain ⟨z,e2⟩:=E_int (show Tryz.prog.underlying 2=some (.int .i64) by kernel_rfl) g1
 obtain ⟨s,e3⟩:=E_text Tryz.underlying9 g2
 have c9:Tryz.prog.cellsOf 9=1:=cells9
 have c33:Tryz.prog.cellsOf 33=1:=by kernel_rfl
 have c2:Tryz.prog.cellsOf 2=1:=by kernel_rfl
 simp only [c9,c33,c2,cells35] at e0 e1 e2 e3
 refine ⟨⟨v,k,z,s⟩,Each.cat 0 1 (A:=[.str v]) (B:=[.int .i8 k,.int .i64 z,.str s]) e0 ?_⟩
 have hT:List.take 3 (List.drop 1 cs)=List.drop 1 cs:=List.take_of_length_le (by rw [List.length_drop];omega)
 rw [hT] at e1 e2 e3
 exact Each.cat (cs:=List.drop 1 cs) 0 1 (A:=[.int .i8 k]) (B:=[.int .i64 z,.str s]) e1 (Each.cat 1 1 (A:=[.int .i64 z]) (B:=[.str s]) e2 (Each.last 2 1 e3 (by rw [List.length_drop];omega)))
theorem readEx:∀(m:Nat) {n:Nat} {cs:List Value} {y:DataW H×List MemPlace},SizeOf.sizeOf y.1<m→DataW.trod enc Tryz.prog w base sp held n 40 cs=some y→Fit Tryz.prog 40 y.1→∃q:Ex,Each (allB w) noB w cs q.cells∧ExS q
 |0,_,_,_,hm,_,_=>absurd hm (Nat.not_lt_zero _)
 |m+1,n,cs,y,hm,h,hfit=>by
  obtain ⟨xs,m',rfl,rfl,hlen,hxs,hf⟩:=DataW.trod_struct Tryz.underlying40 h
  rw [cells40] at hlen
  have hxs:xs.length=3:=hxs
  have f0:=hf 0 ⟨"Op",32,0,false,"","",0⟩ rfl
  have f1:=hf 1 ⟨"Term",37,1,false,"","",8⟩ rfl
  have f2:=hf 2 ⟨"Kids",38,5,false,"","",56⟩ rfl
  rw [List.getElem?_eq_getElem (by omega)] at f0 f1 f2
  have hmem:(xs[2]'(by omega)).1∈xs.map fun x=>x.1:=List.mem_map.2 ⟨_,List.getElem_mem _,rfl⟩
  have hsz:SizeOf.sizeOf (xs[2]'(by omega)).1<m:=by
   have:=List.sizeOf_lt_of_mem hmem
   simp only [DataW.agg.sizeOf_spec] at hm
   omega
  have hf2:Fit Tryz.prog 38 (xs[2]'(by omega)).1:=hfit.field 2 Tryz.underlying40 rfl (by rw [List.getElem?_map,List.getElem?_eq_getElem (by omega)];rfl)
  obtain ⟨o,e0⟩:=E_int (show Tryz.prog.underlying 32=some (.int .i8) by kernel_rfl) f0
  obtain ⟨t,e1⟩:=readTm f1
  obtain ⟨v,l,e2,hV,hG,hl⟩:=V_sliceW Ex.av ExS Tryz.underlying38 cells40 (by omega) hf2 (fun n' cs' y' h1 h2 h3=>by
   obtain ⟨q,hq,hs⟩:=readEx m (by omega) h1 h2
   exact ⟨q,by rw [Ex.av_eq];exact hq,by rw [Ex.av_eq];rfl,hs⟩) f2
  have e2':=Each.one1 hV
  rw [←e2] at e2'
  have c32:Tryz.prog.cellsOf 32=1:=by kernel_rfl
  have c38:Tryz.prog.cellsOf 38=1:=by kernel_rfl
  simp only [c32,c38,cells37] at e0 e1 e2'
  rw [bytes40,reachV] at hl
  exact ⟨.mk o t l,Each.cat 0 1 (A:=[AV.int IntKind.i8 o]) (B:=t.av.cells++[AV.seq (l.map Ex.av) false]) e0 (Each.cat 1 4 (A:=t.av.cells) (B:=[AV.seq (l.map Ex.av) false]) e1 (Each.last 5 1 e2' (by omega))),.mk o t l (by omega) hG⟩
theorem readAt {n:Nat} {cs:List Value} {y:DataW H×List MemPlace} (h:DataW.trod enc Tryz.prog w base sp held n 24 cs=some y) (hfit:Fit Tryz.prog 24 y.1):∃(p:ByteArray) (ts:List Tm),Each (allB w) noB w cs (atC p ts)∧ts.length<10000000000000:=by
 obtain ⟨xs,m',rfl,rfl,hlen,hxs,hf⟩:=DataW.trod_struct Tryz.underlying24 h
 rw [cells24] at hlen
 have hxs:xs.length=2:=hxs
 have f0:=hf 0 ⟨"Pred",9,0,false,"","",0⟩ rfl
 have f1:=hf 1 ⟨"Args",22,1,false,"","",16⟩ rfl
 rw [List.getElem?_eq_getElem (by omega)] at f0 f1
 obtain ⟨p,e0⟩:=E_text Tryz.underlying9 f0
 have hf1:Fit Tryz.prog 22 (xs[1]'(by omega)).1:=hfit.field 1 Tryz.underlying24 rfl (by rw [List.getElem?_map,List.getElem?_eq_getElem (by omega)];rfl)
 obtain ⟨v,ts,e1,hV,_,hl⟩:=V_sliceW Tm.av (fun _=>True) Tryz.underlying22 cells37 (by omega) hf1 (fun n' cs' y' h1 _ _=>by
  obtain ⟨q,hq⟩:=readTm h1
  exact ⟨q,hq,rfl,trivial⟩) f1
 have e1':=Each.one1 hV
 rw [←e1] at e1'
 simp only [cells9,cells22] at e0 e1'
 rw [bytes37,reachV] at hl
 exact ⟨p,ts,Each.cat 0 1 (A:=[AV.str p]) (B:=[AV.seq (ts.map Tm.av) false]) e0 (Each.last 1 1 e1' (by omega)),by omega⟩
theorem readLi {n:Nat} {cs:List Value} {y:DataW H×List MemPlace} (h:DataW.trod enc Tryz.prog w base sp held n 42 cs=some y) (hfit:Fit Tryz.prog 42 y.1):∃x:Li,Each (allB w) noB w cs x.cells∧LiS x:=by
 obtain ⟨xs,m',rfl,rfl,hlen,hxs,hf⟩:=DataW.trod_struct Tryz.underlying42 h
 rw [cells42] at hlen
 have hxs:xs.length=5:=hxs
 have f0:=hf 0 ⟨"Kind",30,0,false,"","",0⟩ rfl
 have f1:=hf 1 ⟨"Atom",24,1,false,"","",8⟩ rfl
 have f2:=hf 2 ⟨"Rel",31,3,false,"","",48⟩ rfl
 have f3:=hf 3 ⟨"Left",40,4,false,"","",56⟩ rfl
 have f4:=hf 4 ⟨"Right",40,10,false,"","",136⟩ rfl
 rw [List.getElem?_eq_getElem (by omega)] at f0 f1 f2 f3 f4
 have hf1:Fit Tryz.prog 24 (xs[1]'(by omega)).1:=hfit.field 1 Tryz.underlying42 rfl (by rw [List.getElem?_map,List.getElem?_eq_getElem (by omega)];rfl)
 have hf3:Fit Tryz.prog 40 (xs[3]'(by omega)).1:=hfit.field 3 Tryz.underlying42 rfl (by rw [List.getElem?_map,List.getElem?_eq_getElem (by omega)];rfl)
 have hf4:Fit Tryz.prog 40 (xs[4]'(by omega)).1:=hfit.field 4 Tryz.underlying42 rfl (by rw [List.getElem?_map,List.getElem?_eq_getElem (by omega)];rfl)
 obtain ⟨k,e0⟩:=E_int Tryz.underlying30 f0
 obtain ⟨p,ts,e1,hts⟩:=readAt f1 hf1
 obtain ⟨rel,e2⟩:=E_int Tryz.underlying31 f2
 obtain ⟨l,e3,hl⟩:=readEx _ (Nat.lt_succ_self _) f3 hf3
 obtain ⟨r,e4,hr⟩:=readEx _ (Nat.lt_succ_self _) f4 hf4
 have c30:Tryz.prog.cellsOf 30=1:=by kernel_rfl
 have c31:Tryz.prog.cellsOf 31=1:=by kernel_rfl
 simp only [c30,c31,cells24,cells40] at e0 e1 e2 e3 e4
 exact ⟨⟨k,p,ts,rel,l,r⟩,Each.cat 0 1 (A:=[AV.int IntKind.i8 k]) (B:=atC p ts++([AV.int IntKind.i8 rel]++(l.cells++r.cells))) e0 (Each.cat 1 2 (A:=atC p ts) (B:=[AV.int IntKind.i8 rel]++(l.cells++r.cells)) e1 (Each.cat 3 1 (A:=[AV.int IntKind.i8 rel]) (B:=l.cells++r.cells) e2 (Each.cat 4 6 (A:=l.cells) (B:=r.cells) e3 (Each.last 10 6 e4 (by omega))))),hl,hr,hts⟩
theorem readAr {n:Nat} {cs:List Value} {y:DataW H×List MemPlace} (h:DataW.trod enc Tryz.prog w base sp held n 105 cs=some y):∃a:Ar,Each (allB w) noB w cs a.av.cells:=by
 obtain ⟨xs,m',rfl,rfl,hlen,hxs,hf⟩:=DataW.trod_struct Tryz.underlying105 h
 rw [cells105] at hlen
 have hxs:xs.length=2:=hxs
 have f0:=hf 0 ⟨"Agg",103,0,false,"","",0⟩ rfl
 have f1:=hf 1 ⟨"Term",37,1,false,"","",8⟩ rfl
 rw [List.getElem?_eq_getElem (by omega)] at f0 f1
 obtain ⟨g,e0⟩:=E_int (show Tryz.prog.underlying 103=some (.int .i8) by kernel_rfl) f0
 obtain ⟨t,e1⟩:=readTm f1
 have c103:Tryz.prog.cellsOf 103=1:=by kernel_rfl
 simp only [c103,cells37] at e0 e1
 exact ⟨⟨g,t⟩,Each.cat 0 1 (A:=[AV.int IntKind.i8 g]) (B:=t.av.cells) e0 (Each.last 1 4 e1 (by omega))⟩
theorem readRu {n:Nat} {cs:List Value} {y:DataW H×List MemPlace} (h:DataW.trod enc Tryz.prog w base sp held n 66 cs=some y) (hfit:Fit Tryz.prog 66 y.1):∃r:Ru,Each (allB w) noB w cs r.av.cells∧r.av.cells.length=3∧RuS r:=by
 obtain ⟨xs,m',rfl,rfl,hlen,hxs,hf⟩:=DataW.trod_struct Tryz.underlying66 h
 rw [cells66] at hlen
 have hxs:xs.length=3:=hxs
 have f0:=hf 0 ⟨"Pred",9,0,false,"","",0⟩ rfl
 have f1:=hf 1 ⟨"Head",64,1,false,"","",16⟩ rfl
 have f2:=hf 2 ⟨"Body",43,2,false,"","",40⟩ rfl
 rw [List.getElem?_eq_getElem (by omega)] at f0 f1 f2
 have hf1:Fit Tryz.prog 64 (xs[1]'(by omega)).1:=hfit.field 1 Tryz.underlying66 rfl (by rw [List.getElem?_map,List.getElem?_eq_getElem (by omega)];rfl)
 have hf2:Fit Tryz.prog 43 (xs[2]'(by omega)).1:=hfit.field 2 Tryz.underlying66 rfl (by rw [List.getElem?_map,List.getElem?_eq_getElem (by omega)];rfl)
 obtain ⟨p,e0⟩:=E_text Tryz.underlying9 f0
 obtain ⟨v1,hd,e1,hV1,_,hl1⟩:=V_sliceW Ar.av (fun _=>True) Tryz.underlying64 cells105 (by omega) hf1 (fun n' cs' y' h1 _ _=>by
  obtain ⟨q,hq⟩:=readAr h1
  exact ⟨q,hq,rfl,trivial⟩) f1
 obtain ⟨v2,bd,e2,hV2,hG,hl2⟩:=V_sliceW Li.av LiS Tryz.underlying43 cells42 (by omega) hf2 (fun n' cs' y' h1 h2 _=>by
  obtain ⟨q,hq,hs⟩:=readLi h1 h2
  exact ⟨q,hq,rfl,hs⟩) f2
 have e1':=Each.one1 hV1
 rw [←e1] at e1'
 have e2':=Each.one1 hV2
 rw [←e2] at e2'
 have c64:Tryz.prog.cellsOf 64=1:=by kernel_rfl
 have c43:Tryz.prog.cellsOf 43=1:=by kernel_rfl
 simp only [cells9,c64,c43] at e0 e1' e2'
 rw [bytes105,reachV] at hl1
 rw [bytes42,reachV] at hl2
 exact ⟨⟨p,hd,bd⟩,Each.cat 0 1 (A:=[AV.str p]) (B:=[AV.seq (hd.map Ar.av) false]++[AV.seq (bd.map Li.av) false]) e0 (Each.cat 1 1 (A:=[AV.seq (hd.map Ar.av) false]) (B:=[AV.seq (bd.map Li.av) false]) e1' (Each.last 2 1 e2' (by omega))),rfl,by show hd.length<_;omega,by show bd.length<_;omega,hG⟩
end
end
end Go.Ped
namespace Go.Ped
open Go.RowKit Go.Proofs
section
variable (la lb:List Ex) (i:Nat)
theorem tmE {x y:Tm}:x=y↔x.v=y.v∧x.k=y.k∧x.n=y.n∧x.s=y.s:=by
 cases x;cases y;simp
theorem arE {x y:Ar}:x=y↔x.g=y.g∧x.t=y.t:=by
 cases x;cases y;simp
theorem exE {x y:Ex}:x=y↔x.op=y.op∧x.t=y.t∧x.kids=y.kids:=by
 cases x;cases y;simp [Ex.op,Ex.t,Ex.kids]
theorem liE {x y:Li}:x=y↔x.k=y.k∧x.rel=y.rel∧(x.p=y.p∧x.ts=y.ts)∧x.l=y.l∧x.r=y.r:=by
 constructor
 ·rintro rfl;exact ⟨rfl,rfl,⟨rfl,rfl⟩,rfl,rfl⟩
 ·rintro ⟨h1,h2,⟨h3,h4⟩,h5,h6⟩;cases x;cases y;simp_all
theorem list_eq_of {α:Type} {l m:List α} (h:m.length=l.length) (hx:∀i,i<l.length→∃x y:α,l[i]? =some x∧m[i]? =some y∧x=y):l=m:=by
 apply List.ext_getElem?
 intro i
 by_cases hi:i<l.length
 ·obtain ⟨x,y,h1,h2,rfl⟩:=hx i hi
  rw [h1,h2]
 ·rw [List.getElem?_eq_none (by omega),List.getElem?_eq_none (by omega)]
abbrev Z2s0 (la:List Tm):Nat×AV:=(0,.seq (la.map Tm.av) false)
abbrev Z2s1 (lb:List Tm):Nat×AV:=(1,.seq (lb.map Tm.av) false)
abbrev Z2s2:Nat×AV:=(5,.int .i64 (i:Int))
abbrev Z2s3:Nat×AV:=(4,.bool false)
abbrev Z2s4:Nat×AV:=(5,.int .i64 ((i+1:Nat):Int))
abbrev Z2sc:St:=⟨[Z2s3],[]⟩
theorem t21 (la lb:List Tm) (i:Nat) (hi:i<la.length) (hl:lb.length=la.length) (hsm:la.length<1000000000000):En 26 (loopOf Tryz.f21 0) ⟨[Z2s0 la,Z2s1 lb,Z2s2 i],[]⟩ (fun e t=>(e= .ret∧(∃x y:Tm,la[i]? =some x∧lb[i]? =some y∧x≠y)∧t=Z2sc)∨(e= .normal∧(∃x y:Tm,la[i]? =some x∧lb[i]? =some y∧x=y)∧t=⟨[Z2s0 la,Z2s1 lb,Z2s4 i],[]⟩)):=by
 obtain ⟨x0,hm0,hx0⟩:=elt_of Tm.av (l:=la) (n:=(↑i:Int)) (by omega) (by omega)
 obtain ⟨x1,hm1,hx1⟩:=elt_of Tm.av (l:=lb) (n:=(↑i:Int)) (by omega) (by omega)
 rcases bft (match decide (x0.1=x1.1) with|false=>false|true=>decide (x0.2=x1.2)&&(decide (x0.3=x1.3)&&(decide (x0.4=x1.4)&&true))&&true) with h2|h2
 ·exact ⟨Out.normal,St.mk [Z2s0 la,Z2s1 lb,(5,.int .i64 ((i:Int)+1))] [],.inr ⟨rfl,⟨x0,x1,hm0,hm1,by rw [tmE];by_cases hv:x0.v=x1.v<;>simp_all⟩,rfl⟩,gA 0 [.is true,.elt (.agg [.str x0.1,.int .i8 x0.2,.int .i64 x0.3,.str x0.4]),.elt (.agg [.str x1.1,.int .i8 x1.2,.int .i64 x1.3,.str x1.4]),.is false] [0,1,5] [] (by kernel_rfl) (aC5 (d1 Tm.av la i (by omega)) hx0 hx1 (show (!match decide (x0.1=x1.1) with
  |false=>false
  |true=>decide (x0.2=x1.2)&&(decide (x0.3=x1.3)&&(decide (x0.4=x1.4)&&true))&&true)=
 false from (by rw [h2];rfl)) (w1 i (by omega)))⟩
 ·exact ⟨Out.ret,St.mk [Z2s3] [],.inl ⟨rfl,⟨x0,x1,hm0,hm1,by rw [ne_eq,tmE];by_cases hv:x0.v=x1.v<;>simp_all⟩,rfl⟩,gA 0 [.is true,.elt (.agg [.str x0.1,.int .i8 x0.2,.int .i64 x0.3,.str x0.4]),.elt (.agg [.str x1.1,.int .i8 x1.2,.int .i64 x1.3,.str x1.4]),.is true] [4] [] (by kernel_rfl) (aC4 (d1 Tm.av la i (by omega)) hx0 hx1 (show (!match decide (x0.1=x1.1) with
  |false=>false
  |true=>decide (x0.2=x1.2)&&(decide (x0.3=x1.3)&&(decide (x0.4=x1.4)&&true))&&true)=
 true from (by rw [h2];rfl)))⟩
abbrev Z2s5 (la:List Tm):Nat×AV:=(5,.int .i64 ((la.length:Nat):Int))
theorem e21 (la lb:List Tm):En 26 (loopOf Tryz.f21 0) ⟨[Z2s0 la,Z2s1 lb,Z2s5 la],[]⟩ (fun e t=>e= .exit 0∧t=⟨[],[]⟩):=by
 exact gE ⟨rfl,rfl⟩ 0 [.is false] [] [] (aC1 (show decide ((↑la.length:Int)<(↑(la.map Tm.av).length:Int))=false from by simp))
abbrev Z2s6 (la:List Ar):Nat×AV:=(0,.seq (la.map Ar.av) false)
abbrev Z2s7 (lb:List Ar):Nat×AV:=(1,.seq (lb.map Ar.av) false)
theorem t50 (la lb:List Ar) (i:Nat) (hi:i<la.length) (hl:lb.length=la.length) (hsm:la.length<1000000000000):En 26 (loopOf Tryz.f50 0) ⟨[Z2s6 la,Z2s7 lb,Z2s2 i],[]⟩ (fun e t=>(e= .ret∧(∃x y:Ar,la[i]? =some x∧lb[i]? =some y∧x≠y)∧t=Z2sc)∨(e= .normal∧(∃x y:Ar,la[i]? =some x∧lb[i]? =some y∧x=y)∧t=⟨[Z2s6 la,Z2s7 lb,Z2s4 i],[]⟩)):=by
 obtain ⟨x0,hm0,hx0⟩:=elt_of Ar.av (l:=la) (n:=(↑i:Int)) (by omega) (by omega)
 obtain ⟨x1,hm1,hx1⟩:=elt_of Ar.av (l:=lb) (n:=(↑i:Int)) (by omega) (by omega)
 rcases bft (match decide (x0.1=x1.1) with|false=>false|true=>decide ((Ar.t x0).1=(Ar.t x1).1)&&(decide ((Ar.t x0).2=(Ar.t x1).2)&&(decide ((Ar.t x0).3=(Ar.t x1).3)&&(decide ((Ar.t x0).4=(Ar.t x1).4)&&true))&&true)&&true) with h2|h2
 ·exact ⟨Out.normal,St.mk [Z2s6 la,Z2s7 lb,(5,.int .i64 ((i:Int)+1))] [],.inr ⟨rfl,⟨x0,x1,hm0,hm1,by rw [arE,tmE];by_cases hv:x0.g=x1.g<;>simp_all⟩,rfl⟩,gA 0 [.is true,.elt (.agg [.int .i8 x0.1,.str (Ar.t x0).1,.int .i8 (Ar.t x0).2,.int .i64 (Ar.t x0).3,.str (Ar.t x0).4]),.elt (.agg [.int .i8 x1.1,.str (Ar.t x1).1,.int .i8 (Ar.t x1).2,.int .i64 (Ar.t x1).3,.str (Ar.t x1).4]),.is false] [0,1,5] [] (by kernel_rfl) (aC5 (d1 Ar.av la i (by omega)) hx0 hx1 (show (!match decide (x0.1=x1.1) with
  |false=>false
  |true=>decide ((Ar.t x0).1=(Ar.t x1).1)&&(decide ((Ar.t x0).2=(Ar.t x1).2)&&(decide ((Ar.t x0).3=(Ar.t x1).3)&&(decide ((Ar.t x0).4=(Ar.t x1).4)&&true))&&true)&&true)=
 false from (by rw [h2];rfl)) (w1 i (by omega)))⟩
 ·exact ⟨Out.ret,St.mk [Z2s3] [],.inl ⟨rfl,⟨x0,x1,hm0,hm1,by rw [ne_eq,arE,tmE];by_cases hv:x0.g=x1.g<;>simp_all⟩,rfl⟩,gA 0 [.is true,.elt (.agg [.int .i8 x0.1,.str (Ar.t x0).1,.int .i8 (Ar.t x0).2,.int .i64 (Ar.t x0).3,.str (Ar.t x0).4]),.elt (.agg [.int .i8 x1.1,.str (Ar.t x1).1,.int .i8 (Ar.t x1).2,.int .i64 (Ar.t x1).3,.str (Ar.t x1).4]),.is true] [4] [] (by kernel_rfl) (aC4 (d1 Ar.av la i (by omega)) hx0 hx1 (show (!match decide (x0.1=x1.1) with
  |false=>false
  |true=>decide ((Ar.t x0).1=(Ar.t x1).1)&&(decide ((Ar.t x0).2=(Ar.t x1).2)&&(decide ((Ar.t x0).3=(Ar.t x1).3)&&(decide ((Ar.t x0).4=(Ar.t x1).4)&&true))&&true)&&true)=
 true from (by rw [h2];rfl)))⟩
theorem e50 (la lb:List Ar):En 26 (loopOf Tryz.f50 0) ⟨[Z2s6 la,Z2s7 lb,(5,.int .i64 ((la.length:Nat):Int))],[]⟩ (fun e t=>e= .exit 0∧t=⟨[],[]⟩):=by
 exact gE ⟨rfl,rfl⟩ 0 [.is false] [] [] (aC1 (show decide ((↑la.length:Int)<(↑(la.map Ar.av).length:Int))=false from by simp))
abbrev Z2s8:Nat×AV:=(0,.seq (la.map Ex.av) false)
abbrev Z2s9:Nat×AV:=(1,.seq (lb.map Ex.av) false)
theorem t191f (hi:i<la.length) (hl:lb.length=la.length) (hsm:la.length<1000000000000) (x y:Ex) (hx:0≤(i:Int)∧(la.map Ex.av)[Int.toNat (i:Int)]? =some (.agg x.cells)) (hy:0≤(i:Int)∧(lb.map Ex.av)[Int.toNat (i:Int)]? =some (.agg y.cells)) (k148:Sp 148 [.agg x.cells,.agg y.cells] [] (.bool false) []):En 27 (loopOf Tryz.f191 0) ⟨[Z2s8 la,Z2s9 lb,Z2s2 i],[]⟩ (fun e t=>e= .ret∧t=Z2sc):=by
 exact gE ⟨rfl,rfl⟩ 0 [.is true,.elt (.agg (Ex.cells x)),.elt (.agg (Ex.cells y)),.call (.bool false) [] []] [4] [] (aC4 (d1 Ex.av la i (by omega)) hx hy k148)
theorem t191t (hi:i<la.length) (hl:lb.length=la.length) (hsm:la.length<1000000000000) (x y:Ex) (hx:0≤(i:Int)∧(la.map Ex.av)[Int.toNat (i:Int)]? =some (.agg x.cells)) (hy:0≤(i:Int)∧(lb.map Ex.av)[Int.toNat (i:Int)]? =some (.agg y.cells)) (k148:Sp 148 [.agg x.cells,.agg y.cells] [] (.bool true) []):EN 27 (loopOf Tryz.f191 0) ⟨[Z2s8 la,Z2s9 lb,Z2s2 i],[]⟩ ⟨[Z2s8 la,Z2s9 lb,Z2s4 i],[]⟩:=by
 exact gE ⟨rfl,rfl⟩ 0 [.is true,.elt (.agg (Ex.cells x)),.elt (.agg (Ex.cells y)),.call (.bool true) [] []] [0,1,5] [] (aC5 (d1 Ex.av la i (by omega)) hx hy k148 (w1 i (by omega)))
theorem e191:En 27 (loopOf Tryz.f191 0) ⟨[Z2s8 la,Z2s9 lb,(5,.int .i64 ((la.length:Nat):Int))],[]⟩ (fun e t=>e= .exit 0∧t=⟨[],[]⟩):=by
 exact gE ⟨rfl,rfl⟩ 0 [.is false] [] [] (aC1 (show decide ((↑la.length:Int)<(↑(la.map Ex.av).length:Int))=false from by simp))
abbrev Z2sa:Nat×AV:=(5,.int .i64 0)
abbrev Z2sd (la lb:List Tm):St:=⟨[Z2s0 la,Z2s1 lb,Z2sa],[]⟩
theorem l21_0 (la lb:List Tm) (hl:lb.length=la.length) (hsm:la.length<1000000000000):(la≠lb∧Lo 26 (loopOf Tryz.f21 0) (Z2sd la lb) .ret Z2sc)∨(la=lb∧Lo 26 (loopOf Tryz.f21 0) (Z2sd la lb) (.exit 0) ⟨[],[]⟩):=by
 rcases range_inv (P:=Tryz.prog) (n:=26) (c:=loopOf Tryz.f21 0) (N:=la.length) (k:=0) (fun i=>⟨[Z2s0 la,Z2s1 lb,(5,.int .i64 (i:Int))],[]⟩) ⟨[],[]⟩ (fun t=>la≠lb∧t=Z2sc) (fun i=>∃x y:Tm,la[i]? =some x∧lb[i]? =some y∧x=y) (fun i hi=>by
  obtain ⟨e,t,⟨rfl,⟨x,y,h1,h2,h3⟩,rfl⟩|⟨rfl,h1,rfl⟩,h⟩:=t21 la lb i hi hl hsm
  ·exact ⟨_,_,.inl ⟨rfl,fun e=>h3 (by rw [e,h2] at h1;exact (Option.some.inj h1).symm),rfl⟩,h⟩
  ·exact ⟨_,_,.inr ⟨rfl,rfl,h1⟩,h⟩) (e21 la lb) with ⟨t,h,h1,rfl⟩|⟨h,hr⟩
 ·exact .inl ⟨h1,h⟩
 ·exact .inr ⟨list_eq_of hl hr,h⟩
abbrev Z2se (la lb:List Ar):St:=⟨[Z2s6 la,Z2s7 lb,Z2sa],[]⟩
theorem l50_0 (la lb:List Ar) (hl:lb.length=la.length) (hsm:la.length<1000000000000):(la≠lb∧Lo 26 (loopOf Tryz.f50 0) (Z2se la lb) .ret Z2sc)∨(la=lb∧Lo 26 (loopOf Tryz.f50 0) (Z2se la lb) (.exit 0) ⟨[],[]⟩):=by
 rcases range_inv (P:=Tryz.prog) (n:=26) (c:=loopOf Tryz.f50 0) (N:=la.length) (k:=0) (fun i=>⟨[Z2s6 la,Z2s7 lb,(5,.int .i64 (i:Int))],[]⟩) ⟨[],[]⟩ (fun t=>la≠lb∧t=Z2sc) (fun i=>∃x y:Ar,la[i]? =some x∧lb[i]? =some y∧x=y) (fun i hi=>by
  obtain ⟨e,t,⟨rfl,⟨x,y,h1,h2,h3⟩,rfl⟩|⟨rfl,h1,rfl⟩,h⟩:=t50 la lb i hi hl hsm
  ·exact ⟨_,_,.inl ⟨rfl,fun e=>h3 (by rw [e,h2] at h1;exact (Option.some.inj h1).symm),rfl⟩,h⟩
  ·exact ⟨_,_,.inr ⟨rfl,rfl,h1⟩,h⟩) (e50 la lb) with ⟨t,h,h1,rfl⟩|⟨h,hr⟩
 ·exact .inl ⟨h1,h⟩
 ·exact .inr ⟨list_eq_of hl hr,h⟩
def SameX (x y:Ex):Prop:=∃rb:Bool,Sp 148 [.agg x.cells,.agg y.cells] [] (.bool rb) []∧(rb=true↔x=y)
abbrev Z2sf:St:=⟨[Z2s8 la,Z2s9 lb,Z2sa],[]⟩
theorem l191_0 (hl:lb.length=la.length) (hsm:la.length<1000000000000) (hk:∀x,x∈la→∀y,y∈lb→SameX x y):(la≠lb∧Lo 27 (loopOf Tryz.f191 0) (Z2sf la lb) .ret Z2sc)∨(la=lb∧Lo 27 (loopOf Tryz.f191 0) (Z2sf la lb) (.exit 0) ⟨[],[]⟩):=by
 rcases range_inv (P:=Tryz.prog) (n:=27) (c:=loopOf Tryz.f191 0) (N:=la.length) (k:=0) (fun i=>⟨[Z2s8 la,Z2s9 lb,(5,.int .i64 (i:Int))],[]⟩) ⟨[],[]⟩ (fun t=>la≠lb∧t=Z2sc) (fun i=>∃x y:Ex,la[i]? =some x∧lb[i]? =some y∧x=y) (fun i hi=>by
  have hx:la[i]? =some la[i]:=List.getElem?_eq_getElem hi
  have hy:lb[i]? =some (lb[i]'(by omega)):=List.getElem?_eq_getElem (by omega)
  obtain ⟨rb,s,hrb⟩:=hk _ (List.mem_of_getElem? hx) _ (List.mem_of_getElem? hy)
  generalize la[i]=x at hx s hrb
  generalize lb[i]'(by omega)=y at hy s hrb
  have gx:0≤(i:Int)∧(la.map Ex.av)[Int.toNat (i:Int)]? =some (.agg x.cells):=⟨by omega,by rw [←Ex.av_eq];exact get_of Ex.av hx⟩
  have gy:0≤(i:Int)∧(lb.map Ex.av)[Int.toNat (i:Int)]? =some (.agg y.cells):=⟨by omega,by rw [←Ex.av_eq];exact get_of Ex.av hy⟩
  cases rb with
  |false=>
   obtain ⟨e,t,⟨rfl,rfl⟩,h⟩:=t191f la lb i hi hl hsm x y gx gy s
   exact ⟨_,_,.inl ⟨rfl,fun e=>by rw [e,hy] at hx;exact absurd (hrb.2 (Option.some.inj hx).symm) (by simp),rfl⟩,h⟩
  |true=>
   obtain ⟨e,t,⟨rfl,rfl⟩,h⟩:=t191t la lb i hi hl hsm x y gx gy s
   exact ⟨_,_,.inr ⟨rfl,rfl,x,y,hx,hy,hrb.1 rfl⟩,h⟩) (e191 la lb) with ⟨t,h,h1,rfl⟩|⟨h,hr⟩
 ·exact .inl ⟨h1,h⟩
 ·exact .inr ⟨list_eq_of hl hr,h⟩
abbrev Z2sg (la lb:List Tm):St:=⟨[Z2s0 la,Z2s1 lb],[]⟩
theorem b21l (la lb:List Tm) (hl:lb.length≠la.length):En 26 (bodyOf Tryz.f21) (Z2sg la lb) (fun e t=>e= .ret∧t=Z2sc):=by
 exact gE ⟨rfl,rfl⟩ 0 [.is true] [4] [] (aC1 (show (!decide ((↑(la.map Tm.av).length:Int)=(↑(lb.map Tm.av).length:Int)))=true from by simp;omega))
theorem b21n (la lb:List Tm) (hl:lb.length=la.length) (l21_0q:Lo 26 (loopOf Tryz.f21 0) (Z2sd la lb) .ret Z2sc):En 26 (bodyOf Tryz.f21) (Z2sg la lb) (fun e t=>e= .ret∧t=Z2sc):=by
 have hl0:=l21_0q
 exact gE ⟨rfl,rfl⟩ 0 [.is false,.cut [0,1,5] [],.sum .ret [Z2s3] []] [4] [] (aC2 (show (!decide ((↑(la.map Tm.av).length:Int)=(↑(lb.map Tm.av).length:Int)))=false from by simp;omega) hl0)
abbrev Z2sb:Nat×AV:=(4,.bool true)
abbrev Z2sh:St:=⟨[Z2sb],[]⟩
theorem b21y (la lb:List Tm) (hl:lb.length=la.length) (l21_0q:Lo 26 (loopOf Tryz.f21 0) (Z2sd la lb) (.exit 0) ⟨[],[]⟩):En 26 (bodyOf Tryz.f21) (Z2sg la lb) (fun e t=>e= .ret∧t=Z2sh):=by
 have hl0:=l21_0q
 exact gE ⟨rfl,rfl⟩ 0 [.is false,.cut [0,1,5] [],.sum (.exit 0) [] []] [4] [] (aC2 (show (!decide ((↑(la.map Tm.av).length:Int)=(↑(lb.map Tm.av).length:Int)))=false from by simp;omega) hl0)
theorem b50l (la lb:List Ar) (hl:lb.length≠la.length):En 26 (bodyOf Tryz.f50) ⟨[Z2s6 la,Z2s7 lb],[]⟩ (fun e t=>e= .ret∧t=Z2sc):=by
 exact gE ⟨rfl,rfl⟩ 0 [.is true] [4] [] (aC1 (show (!decide ((↑(la.map Ar.av).length:Int)=(↑(lb.map Ar.av).length:Int)))=true from by simp;omega))
theorem b50n (la lb:List Ar) (hl:lb.length=la.length) (l50_0q:Lo 26 (loopOf Tryz.f50 0) (Z2se la lb) .ret Z2sc):En 26 (bodyOf Tryz.f50) ⟨[Z2s6 la,Z2s7 lb],[]⟩ (fun e t=>e= .ret∧t=Z2sc):=by
 have hl0:=l50_0q
 exact gE ⟨rfl,rfl⟩ 0 [.is false,.cut [0,1,5] [],.sum .ret [Z2s3] []] [4] [] (aC2 (show (!decide ((↑(la.map Ar.av).length:Int)=(↑(lb.map Ar.av).length:Int)))=false from by simp;omega) hl0)
theorem b50y (la lb:List Ar) (hl:lb.length=la.length) (l50_0q:Lo 26 (loopOf Tryz.f50 0) (Z2se la lb) (.exit 0) ⟨[],[]⟩):En 26 (bodyOf Tryz.f50) ⟨[Z2s6 la,Z2s7 lb],[]⟩ (fun e t=>e= .ret∧t=Z2sh):=by
 have hl0:=l50_0q
 exact gE ⟨rfl,rfl⟩ 0 [.is false,.cut [0,1,5] [],.sum (.exit 0) [] []] [4] [] (aC2 (show (!decide ((↑(la.map Ar.av).length:Int)=(↑(lb.map Ar.av).length:Int)))=false from by simp;omega) hl0)
abbrev Z2si:St:=⟨[Z2s8 la,Z2s9 lb],[]⟩
theorem b191l (hl:lb.length≠la.length):En 27 (bodyOf Tryz.f191) (Z2si la lb) (fun e t=>e= .ret∧t=Z2sc):=by
 exact gE ⟨rfl,rfl⟩ 0 [.is true] [4] [] (aC1 (show (!decide ((↑(la.map Ex.av).length:Int)=(↑(lb.map Ex.av).length:Int)))=true from by simp;omega))
theorem b191n (hl:lb.length=la.length) (l191_0q:Lo 27 (loopOf Tryz.f191 0) (Z2sf la lb) .ret Z2sc):En 27 (bodyOf Tryz.f191) (Z2si la lb) (fun e t=>e= .ret∧t=Z2sc):=by
 have hl0:=l191_0q
 exact gE ⟨rfl,rfl⟩ 0 [.is false,.cut [0,1,5] [],.sum .ret [Z2s3] []] [4] [] (aC2 (show (!decide ((↑(la.map Ex.av).length:Int)=(↑(lb.map Ex.av).length:Int)))=false from by simp;omega) hl0)
theorem b191y (hl:lb.length=la.length) (l191_0q:Lo 27 (loopOf Tryz.f191 0) (Z2sf la lb) (.exit 0) ⟨[],[]⟩):En 27 (bodyOf Tryz.f191) (Z2si la lb) (fun e t=>e= .ret∧t=Z2sh):=by
 have hl0:=l191_0q
 exact gE ⟨rfl,rfl⟩ 0 [.is false,.cut [0,1,5] [],.sum (.exit 0) [] []] [4] [] (aC2 (show (!decide ((↑(la.map Ex.av).length:Int)=(↑(lb.map Ex.av).length:Int)))=false from by simp;omega) hl0)
theorem b148 (x y:Ex) (rk:Bool) (k191:Sp 191 [.seq (x.kids.map Ex.av) false,.seq (y.kids.map Ex.av) false] [] (.bool rk) []):En 24 (bodyOf Tryz.f148) ⟨[(0,.agg x.cells),(1,.agg y.cells)],[]⟩ (fun e t=>e= .ret∧∃rb:Bool,(rb=true↔(x.op=y.op∧(x.t.v=y.t.v∧x.t.k=y.t.k∧x.t.n=y.t.n∧x.t.s=y.t.s)∧rk=true))∧t=⟨[(4,.bool rb)],[]⟩):=by
 rcases bft (decide (Ex.op x=Ex.op y)) with h0|h0
 ·rcases bft (match decide (Tm.v (Ex.t x)=Tm.v (Ex.t y)) with|false=>false|true=>decide (Tm.k (Ex.t x)=Tm.k (Ex.t y))&&(decide (Tm.n (Ex.t x)=Tm.n (Ex.t y))&&(decide (Tm.s (Ex.t x)=Tm.s (Ex.t y))&&true))&&true) with h1|h1
  ·have hs2:=k191
   cases rk with
   |true=>
    exact ⟨Out.ret,St.mk [Z2sb] [],⟨rfl,_,by first|(by_cases hv:x.t.v=y.t.v<;>simp_all;done)|(simp_all;done),rfl⟩,gA 0 [.is true,.is true,.call (.bool true) [] []] [4] [] (by kernel_rfl) (aC3 h0 h1 hs2)⟩
   |false=>
    exact ⟨Out.ret,St.mk [Z2s3] [],⟨rfl,_,by first|(by_cases hv:x.t.v=y.t.v<;>simp_all;done)|(simp_all;done),rfl⟩,gA 0 [.is true,.is true,.call (.bool false) [] []] [4] [] (by kernel_rfl) (aC3 h0 h1 hs2)⟩
  ·exact ⟨Out.ret,St.mk [Z2s3] [],⟨rfl,_,by first|(by_cases hv:x.t.v=y.t.v<;>simp_all;done)|(simp_all;done),rfl⟩,gA 0 [.is true,.is false] [4] [] (by kernel_rfl) (aC2 h0 h1)⟩
 ·exact ⟨Out.ret,St.mk [Z2s3] [],⟨rfl,_,by first|(by_cases hv:x.t.v=y.t.v<;>simp_all;done)|(simp_all;done),rfl⟩,gA 0 [.is false] [4] [] (by kernel_rfl) (aC1 h0)⟩
theorem k21x (la lb:List Tm) (hsm:la.length<1000000000000):∃rb:Bool,Sp 21 [.seq (la.map Tm.av) false,.seq (lb.map Tm.av) false] [] (.bool rb) []∧(rb=true↔la=lb):=by
 have hn:noIdsL [AV.seq (la.map Tm.av) false,.seq (lb.map Tm.av) false]=true:=by simp [noIdsL,noIds]
 have fin:∀{rb:Bool},En 26 (bodyOf Tryz.f21) (Z2sg la lb) (fun e t=>e= .ret∧t=⟨[(4,.bool rb)],[]⟩)→Sp 21 [.seq (la.map Tm.av) false,.seq (lb.map Tm.av) false] [] (.bool rb) []:=by
  rintro rb ⟨e,t,⟨rfl,rfl⟩,h⟩
  exact sP Tryz.f21 hn h (.inr rfl)
 by_cases hl:lb.length=la.length
 ·rcases l21_0 la lb hl hsm with ⟨h1,h⟩|⟨h1,h⟩
  ·exact ⟨false,fin (b21n la lb hl h),by simp [h1]⟩
  ·exact ⟨true,fin (b21y la lb hl h),by simp [h1]⟩
 ·exact ⟨false,fin (b21l la lb hl),by simp;rintro rfl;exact hl rfl⟩
theorem k50x (la lb:List Ar) (hsm:la.length<1000000000000):∃rb:Bool,Sp 50 [.seq (la.map Ar.av) false,.seq (lb.map Ar.av) false] [] (.bool rb) []∧(rb=true↔la=lb):=by
 have hn:noIdsL [AV.seq (la.map Ar.av) false,.seq (lb.map Ar.av) false]=true:=by simp [noIdsL,noIds]
 have fin:∀{rb:Bool},En 26 (bodyOf Tryz.f50) ⟨[(0,.seq (la.map Ar.av) false),(1,.seq (lb.map Ar.av) false)],[]⟩ (fun e t=>e= .ret∧t=⟨[(4,.bool rb)],[]⟩)→Sp 50 [.seq (la.map Ar.av) false,.seq (lb.map Ar.av) false] [] (.bool rb) []:=by
  rintro rb ⟨e,t,⟨rfl,rfl⟩,h⟩
  exact sP Tryz.f50 hn h (.inr rfl)
 by_cases hl:lb.length=la.length
 ·rcases l50_0 la lb hl hsm with ⟨h1,h⟩|⟨h1,h⟩
  ·exact ⟨false,fin (b50n la lb hl h),by simp [h1]⟩
  ·exact ⟨true,fin (b50y la lb hl h),by simp [h1]⟩
 ·exact ⟨false,fin (b50l la lb hl),by simp;rintro rfl;exact hl rfl⟩
theorem k191i (hsm:la.length<1000000000000) (hk:∀x,x∈la→∀y,y∈lb→SameX x y):∃rb:Bool,Sp 191 [.seq (la.map Ex.av) false,.seq (lb.map Ex.av) false] [] (.bool rb) []∧(rb=true↔la=lb):=by
 have hn:noIdsL [AV.seq (la.map Ex.av) false,.seq (lb.map Ex.av) false]=true:=by simp [noIdsL,noIds]
 have fin:∀{rb:Bool},En 27 (bodyOf Tryz.f191) (Z2si la lb) (fun e t=>e= .ret∧t=⟨[(4,.bool rb)],[]⟩)→Sp 191 [.seq (la.map Ex.av) false,.seq (lb.map Ex.av) false] [] (.bool rb) []:=by
  rintro rb ⟨e,t,⟨rfl,rfl⟩,h⟩
  exact sP Tryz.f191 hn h (.inr rfl)
 by_cases hl:lb.length=la.length
 ·rcases l191_0 la lb hl hsm hk with ⟨h1,h⟩|⟨h1,h⟩
  ·exact ⟨false,fin (b191n la lb hl h),by simp [h1]⟩
  ·exact ⟨true,fin (b191y la lb hl h),by simp [h1]⟩
 ·exact ⟨false,fin (b191l la lb hl),by simp;rintro rfl;exact hl rfl⟩
theorem k148i (x y:Ex) (hsm:x.kids.length<1000000000000) (hk:∀a,a∈x.kids→∀b,b∈y.kids→SameX a b):SameX x y:=by
 obtain ⟨rk,s,hrk⟩:=k191i x.kids y.kids hsm hk
 obtain ⟨e,t,⟨rfl,rb,hrb,rfl⟩,h⟩:=b148 x y rk s
 refine ⟨rb,sP Tryz.f148 (by simp [noIdsL,noIds,Ex.cells,exC]) h (.inr rfl),?_⟩
 rw [hrb,exE,tmE,hrk]
end
section
variable (p:ByteArray) (hd:List Ar) (xs l:List Li) (tk:List Bool) (x:Li) (i j:Nat)
mutual
theorem k148x:∀(x:Ex),x.terms.length<100000000→∀y,SameX x y
 | .mk o t ks,hB,y=>by
   have hB':(t::Ex.termsL ks).length<100000000:=hB
   have hk:=Ex.termsL_len ks
   simp only [List.length_cons] at hB'
   exact k148i (.mk o t ks) y (by show ks.length<_;omega) (fun a ha b _=>k148s ks (by omega) a ha b)
theorem k148s:∀(l:List Ex),(Ex.termsL l).length<100000000→∀(a:Ex),a∈l→∀y,SameX a y
 |[],_,a,ha=>by simp at ha
 |x::r,hl,a,ha=>by
  simp only [Ex.termsL,List.length_append] at hl
  rcases List.mem_cons.1 ha with e|e
  ·rw [e];exact k148x x (by omega)
  ·exact k148s r (by omega) a e
end
abbrev Z2t0:Nat×AV:=(4,.bool false)
theorem b20x (q:ByteArray) (ts us:List Tm) (rt:Bool) (k21:Sp 21 [.seq (ts.map Tm.av) false,.seq (us.map Tm.av) false] [] (.bool rt) []):En 17 (bodyOf Tryz.f20) ⟨[(0,atA p ts),(1,atA q us)],[]⟩ (fun e t=>e= .ret∧∃rb:Bool,(rb=true↔(p=q∧rt=true))∧t=⟨[(4,.bool rb)],[]⟩):=by
 rcases bft (decide (p=q)) with h0|h0
 ·have hs1:=k21
  cases rt with
  |true=>
   exact ⟨Out.ret,St.mk [(4,.bool true)] [],⟨rfl,_,by simp_all;done,rfl⟩,gA 0 [.is true,.call (.bool true) [] []] [4] [] (by kernel_rfl) (aC2 h0 hs1)⟩
  |false=>
   exact ⟨Out.ret,St.mk [Z2t0] [],⟨rfl,_,by simp_all;done,rfl⟩,gA 0 [.is true,.call (.bool false) [] []] [4] [] (by kernel_rfl) (aC2 h0 hs1)⟩
 ·exact ⟨Out.ret,St.mk [Z2t0] [],⟨rfl,_,by simp_all;done,rfl⟩,gA 0 [.is false] [4] [] (by kernel_rfl) (aC1 h0)⟩
theorem b92 (y:Li) (ra rl rr:Bool) (k20:Sp 20 [atA x.p x.ts,atA y.p y.ts] [] (.bool ra) []) (k148a:Sp 148 [.agg x.l.cells,.agg y.l.cells] [] (.bool rl) []) (k148b:Sp 148 [.agg x.r.cells,.agg y.r.cells] [] (.bool rr) []):En 38 (bodyOf Tryz.f92) ⟨[(0,x.av),(1,y.av)],[]⟩ (fun e t=>e= .ret∧∃rb:Bool,(rb=true↔(x.k=y.k∧x.rel=y.rel∧ra=true∧rl=true∧rr=true))∧t=⟨[(4,.bool rb)],[]⟩):=by
 rcases bft (decide (Li.k x=Li.k y)) with h0|h0
 ·rcases bft (decide (Li.rel x=Li.rel y)) with h1|h1
  ·have hs2:=k20
   cases ra with
   |true=>
    have hs3:=k148a
    cases rl with
    |true=>
     have hs4:=k148b
     cases rr with
     |true=>
      exact ⟨Out.ret,St.mk [(4,.bool true)] [],⟨rfl,_,by simp_all;done,rfl⟩,gA 0 [.is true,.is true,.call (.bool true) [] [],.call (.bool true) [] [],.call (.bool true) [] []] [4] [] (by kernel_rfl) (aC5 h0 h1 hs2 hs3 hs4)⟩
     |false=>
      exact ⟨Out.ret,St.mk [Z2t0] [],⟨rfl,_,by simp_all;done,rfl⟩,gA 0 [.is true,.is true,.call (.bool true) [] [],.call (.bool true) [] [],.call (.bool false) [] []] [4] [] (by kernel_rfl) (aC5 h0 h1 hs2 hs3 hs4)⟩
    |false=>
     exact ⟨Out.ret,St.mk [Z2t0] [],⟨rfl,_,by simp_all;done,rfl⟩,gA 0 [.is true,.is true,.call (.bool true) [] [],.call (.bool false) [] []] [4] [] (by kernel_rfl) (aC4 h0 h1 hs2 hs3)⟩
   |false=>
    exact ⟨Out.ret,St.mk [Z2t0] [],⟨rfl,_,by simp_all;done,rfl⟩,gA 0 [.is true,.is true,.call (.bool false) [] []] [4] [] (by kernel_rfl) (aC3 h0 h1 hs2)⟩
  ·exact ⟨Out.ret,St.mk [Z2t0] [],⟨rfl,_,by simp_all;done,rfl⟩,gA 0 [.is true,.is false] [4] [] (by kernel_rfl) (aC2 h0 h1)⟩
 ·exact ⟨Out.ret,St.mk [Z2t0] [],⟨rfl,_,by simp_all;done,rfl⟩,gA 0 [.is false] [4] [] (by kernel_rfl) (aC1 h0)⟩
theorem k20x (q:ByteArray) (ts us:List Tm) (hsm:ts.length<1000000000000):∃rb:Bool,Sp 20 [atA p ts,atA q us] [] (.bool rb) []∧(rb=true↔(p=q∧ts=us)):=by
 obtain ⟨rt,s,hrt⟩:=k21x ts us hsm
 obtain ⟨e,t,⟨rfl,rb,hrb,rfl⟩,h⟩:=b20x p q ts us rt s
 refine ⟨rb,sP Tryz.f20 (by simp [noIdsL,noIds,atA,atC]) h (.inr rfl),?_⟩
 rw [hrb,hrt]
theorem k92x (y:Li) (hB:x.terms.length<100000000):∃rb:Bool,Sp 92 [x.av,y.av] [] (.bool rb) []∧(rb=true↔x=y):=by
 obtain ⟨h1,h2,h3⟩:x.ts.length<1000000000000∧x.l.terms.length<100000000∧x.r.terms.length<100000000:=by
  simp only [Li.terms,List.length_append] at hB;omega
 obtain ⟨ra,sa,ha⟩:=k20x x.p y.p x.ts y.ts h1
 obtain ⟨rl,sl,hl⟩:=k148x x.l h2 y.l
 obtain ⟨rr,sr,hr⟩:=k148x x.r h3 y.r
 obtain ⟨e,t,⟨rfl,rb,hrb,rfl⟩,h⟩:=b92 x y ra rl rr sa sl sr
 refine ⟨rb,sP Tryz.f92 (by simp [noIdsL]) h (.inr rfl),?_⟩
 rw [hrb,liE,ha,hl,hr]
abbrev Z2t1:Nat×AV:=(0,.seq (l.map Li.av) false)
abbrev Z2t2:Nat×AV:=(1,.seq (tk.map AV.bool) false)
abbrev Z2t3:Nat×AV:=(5,.elt 5 0 0)
abbrev Z2t4:Nat×AV:=(7,.int .i64 (i:Int))
abbrev Z2t5:Nat×Ob:=(5,.var x.cells)
abbrev Z2t7:St:=⟨[Z2t1 l,Z2t2 tk,Z2t3,Z2t4 i],[Z2t5 x]⟩
abbrev Z2t8:St:=⟨[Z2t1 l,Z2t2 tk,Z2t3,(7,.int .i64 ((i+1:Nat):Int))],[Z2t5 x]⟩
theorem t51a (hi:i<l.length) (hsm:l.length<1000000) (hb:0≤(i:Int)∧(tk.map AV.bool)[Int.toNat (i:Int)]? =some (.bool true)):EN 28 (loopOf Tryz.f51 0) (Z2t7 l tk x i) (Z2t8 l tk x i):=by
 exact gE ⟨rfl,rfl⟩ 0 [.is true,.elt (.bool true)] [0,1,5,7] [K1 5] (aC4 (d1 Li.av l i (by omega)) hb (w1 i (by omega)) rT)
theorem t51b (hi:i<l.length) (hsm:l.length<1000000) (hb:0≤(i:Int)∧(tk.map AV.bool)[Int.toNat (i:Int)]? =some (.bool false)) (y:Li) (hy:0≤(i:Int)∧(l.map Li.av)[Int.toNat (i:Int)]? =some y.av) (k92:Sp 92 [y.av,x.av] [] (.bool false) []):EN 28 (loopOf Tryz.f51 0) (Z2t7 l tk x i) (Z2t8 l tk x i):=by
 exact gE ⟨rfl,rfl⟩ 0 [.is true,.elt (.bool false),.elt (Li.av y),.call (.bool false) [] []] [0,1,5,7] [K1 5] (aC6 (d1 Li.av l i (by omega)) hb hy k92 (w1 i (by omega)) rT)
theorem t51c (hi:i<l.length) (hsm:l.length<1000000) (hb:0≤(i:Int)∧(tk.map AV.bool)[Int.toNat (i:Int)]? =some (.bool false)) (y:Li) (hy:0≤(i:Int)∧(l.map Li.av)[Int.toNat (i:Int)]? =some y.av) (k92:Sp 92 [y.av,x.av] [] (.bool true) []):En 28 (loopOf Tryz.f51 0) (Z2t7 l tk x i) (fun e t=>e= .ret∧t=⟨[(6,.int .i64 (i:Int))],[]⟩):=by
 exact gE ⟨rfl,rfl⟩ 0 [.is true,.elt (.bool false),.elt (Li.av y),.call (.bool true) [] []] [6] [] (aC4 (d1 Li.av l i (by omega)) hb hy k92)
abbrev Z2t6:Nat×AV:=(6,.int .i64 (j:Int))
abbrev Z2t9:St:=⟨[Z2t1 l,Z2t2 tk,Z2t3,(7,.int .i64 0)],[Z2t5 x]⟩
abbrev Z2ta:St:=⟨[Z2t6 j],[]⟩
theorem b51 (l51_0q:Lo 28 (loopOf Tryz.f51 0) (Z2t9 l tk x) .ret (Z2ta j)):En 28 (bodyOf Tryz.f51) ⟨[Z2t1 l,Z2t2 tk,(2,x.av)],[]⟩ (fun e t=>e= .ret∧t=(Z2ta j)):=by
 have hl0:=l51_0q
 exact gE ⟨rfl,rfl⟩ 0 [.cut [0,1,5,7] [K1 5],.sum .ret [Z2t6 j] []] [6] [] (aC2 rT hl0)
theorem get_bool {tk:List Bool} {i:Nat} {b:Bool} (h:tk[i]? =some b):0≤(i:Int)∧(tk.map AV.bool)[Int.toNat (i:Int)]? =some (.bool b):=⟨by omega,get_of AV.bool h⟩
theorem l51_0 (hsm:l.length<1000000) (hB:∀y,y∈l→y.terms.length<100000000) (h1:l[j]? =some x) (h2:tk[j]? =some false) (h3:∀i,i<j→∃y b,l[i]? =some y∧tk[i]? =some b∧(b=true∨y≠x)):
  Lo 28 (loopOf Tryz.f51 0) (Z2t9 l tk x) .ret (Z2ta j):=by
 have hj:=(List.getElem?_eq_some_iff.1 h1).1
 refine Loops.from (P:=Tryz.prog) (n:=28) (c:=loopOf Tryz.f51 0) (e:= .ret) (st':=(Z2ta j)) (st:=fun i=>⟨[Z2t1 l,Z2t2 tk,Z2t3,(7,.int .i64 (i:Int))],[Z2t5 x]⟩) (N:=j) ?_ ?_
 ·intro i hi
  obtain ⟨y,b,hy,hb,hn⟩:=h3 i hi
  have hil:=(List.getElem?_eq_some_iff.1 hy).1
  cases b with
  |true=>
   obtain ⟨e,t,⟨rfl,rfl⟩,h⟩:=t51a l tk x i hil hsm (get_bool hb)
   exact h
  |false=>
   obtain ⟨rb,s,hrb⟩:=k92x y x (hB y (List.mem_of_getElem? hy))
   cases rb with
   |true=>simp [hrb.1 rfl] at hn
   |false=>
    obtain ⟨e,t,⟨rfl,rfl⟩,h⟩:=t51b l tk x i hil hsm (get_bool hb) y ⟨by omega,get_of Li.av hy⟩ s
    exact h
 ·obtain ⟨rb,s,hrb⟩:=k92x x x (hB x (List.mem_of_getElem? h1))
  obtain rfl:rb=true:=hrb.2 rfl
  obtain ⟨e,t,⟨rfl,rfl⟩,h⟩:=t51c l tk x j hj hsm (get_bool h2) x ⟨by omega,get_of Li.av h1⟩ s
  exact .leave h (by simp)
theorem noIdsL_bools:noIdsL (tk.map AV.bool)=true:=noIdsL_of AV.bool (fun _=>rfl) tk
theorem k51r (hl:tk.length=l.length) (hsm:l.length<1000000) (hB:∀y,y∈l→y.terms.length<100000000) (h1:l[j]? =some x) (h2:tk[j]? =some false) (h3:∀i,i<j→∃y b,l[i]? =some y∧tk[i]? =some b∧(b=true∨y≠x)):
  Sp 51 [.seq (l.map Li.av) false,.row 33 0 l.length,x.av] [(33,.row 1 (tk.map AV.bool))] (.int .i64 (j:Int)) []:=by
 obtain ⟨e,t,⟨rfl,rfl⟩,h⟩:=b51 l tk x j (l51_0 l tk x j hsm hB h1 h2 h3)
 have hs:Sp 51 [.seq (l.map Li.av) false,.seq (tk.map AV.bool) false,x.av] [] (.int .i64 (j:Int)) []:=sP Tryz.f51 (by simp [noIdsL,noIds,noIdsL_bools]) h (.inr rfl)
 have hb:Sp 51 [.seq (l.map Li.av) false,.row 33 0 (tk.map AV.bool).length,x.av] [(33,.row 1 (tk.map AV.bool))] (.int .i64 (j:Int)) []:=hs.borrow [(33,.row 1 (tk.map AV.bool))] rfl (bare1 (all1 (noIdsL_bools tk))) rfl (all1 rfl) rfl
 rwa [List.length_map,hl] at hb
def free:List Li→List Bool→List Li
 |x::l,false::t=>x::free l t
 |_::l,true::t=>free l t
 |_,_=>[]
theorem free_all:∀(l:List Li),free l (List.replicate l.length false)=l
 |[]=>rfl
 |x::l=>by
  show free (x::l) (false::List.replicate l.length false)=_
  rw [free,free_all l]
theorem free_find:∀{l:List Li} {t:List Bool} {x:Li},t.length=l.length→x∈free l t→∃j,l[j]? =some x∧t[j]? =some false∧(∀i,i<j→∃y b,l[i]? =some y∧t[i]? =some b∧(b=true∨y≠x))∧(free l t).Perm (x::free l (t.set j true))
 |[],t,x,_,h=>by cases t<;>simp [free] at h
 |y::l,[],x,hl,h=>by simp at hl
 |y::l,true::t,x,hl,h=>by
  have hl':t.length=l.length:=by simpa using hl
  obtain ⟨j,h1,h2,h3,h4⟩:=free_find (l:=l) (t:=t) hl' (by simpa [free] using h)
  refine ⟨j+1,by simpa using h1,by simpa using h2,fun i hi=> ?_,by simpa [free] using h4⟩
  cases i with
  |zero=>exact ⟨y,true,rfl,rfl,.inl rfl⟩
  |succ i=>simpa using h3 i (by omega)
 |y::l,false::t,x,hl,h=>by
  have hl':t.length=l.length:=by simpa using hl
  by_cases e:y=x
  ·subst e
   exact ⟨0,rfl,rfl,fun i hi=>absurd hi (by omega),by simp [free]⟩
  ·have hm:x∈free l t:=by
    rw [free] at h
    rcases List.mem_cons.1 h with h|h
    ·exact absurd h.symm e
    ·exact h
   obtain ⟨j,h1,h2,h3,h4⟩:=free_find (l:=l) (t:=t) hl' hm
   refine ⟨j+1,by simpa using h1,by simpa using h2,fun i hi=> ?_,?_⟩
   ·cases i with
    |zero=>exact ⟨y,false,rfl,rfl,.inr e⟩
    |succ i=>simpa using h3 i (by omega)
   ·rw [List.set_cons_succ,free,free]
    exact (h4.cons y).trans (List.Perm.swap x y _)
theorem t24 (hi:i<xs.length) (hsm:xs.length<1000000) (hx:0≤(i:Int)∧(xs.map Li.av)[Int.toNat (i:Int)]? =some x.av) (k51:Sp 51 [.seq (l.map Li.av) false,.row 33 0 l.length,x.av] [(33,.row 1 (tk.map AV.bool))] (.int .i64 (j:Int)) []) (hj0:decide ((j:Int)<0)=false) (hj:j<l.length) (hjt:j<tk.length) (hns:noIdsL ((tk.map AV.bool).set (0+Int.toNat (j:Int)) (.bool true))=true):EN 55 (loopOf Tryz.f24 0) ⟨[(2,.elt 2 0 0),(3,.elt 3 0 0),(5,.row 33 0 l.length),(6,.int .i64 (i:Int))],[(2,.var [.str p,.seq (hd.map Ar.av) false,.seq (xs.map Li.av) false]),(3,.var [.str p,.seq (hd.map Ar.av) false,.seq (l.map Li.av) false]),(33,.row 1 (tk.map AV.bool))]⟩ ⟨[(2,.elt 2 0 0),(3,.elt 3 0 0),(5,.row 33 0 l.length),(6,.int .i64 ((i+1:Nat):Int))],[(2,.var [.str p,.seq (hd.map Ar.av) false,.seq (xs.map Li.av) false]),(3,.var [.str p,.seq (hd.map Ar.av) false,.seq (l.map Li.av) false]),(33,.row 1 ((tk.map AV.bool).set j (.bool true)))]⟩:=by
 exact ⟨Out.normal,St.mk [(2,AV.elt 2 0 0),(3,AV.elt 3 0 0),(5,AV.row 33 0 (List.length l)),(6,AV.int .i64 ((↑i:Int)+1))] [(2,Ob.var [AV.str p,AV.seq (List.map Ar.av hd) false,AV.seq (List.map Li.av xs) false]),(3,Ob.var [AV.str p,AV.seq (List.map Ar.av hd) false,AV.seq (List.map Li.av l) false]),(33,Ob.row 1 (List.set (List.map AV.bool tk) (0+Int.toNat (↑j:Int)) (AV.bool true)))],⟨rfl,by simp⟩,gA 0 [.is true,.elt (Li.av x),.call (.int .i64 (j:Int)) [33] [],.is false] [2,3,5,6] [K1 2,K1 3,K1 33] (by kernel_rfl) (aC10 (d1 Li.av xs i (by omega)) hx k51 rF (show 0≤(j:Int)∧(j:Int)<(↑l.length:Int) from by omega) (show 0+Int.toNat (j:Int)<List.length (tk.map AV.bool) from by simp;omega) (w1 i (by omega)) rT rT hns)⟩
theorem e24:En 55 (loopOf Tryz.f24 0) ⟨[(2,.elt 2 0 0),(3,.elt 3 0 0),(5,.row 33 0 l.length),(6,.int .i64 ((xs.length:Nat):Int))],[(2,.var [.str p,.seq (hd.map Ar.av) false,.seq (xs.map Li.av) false]),(3,.var [.str p,.seq (hd.map Ar.av) false,.seq (l.map Li.av) false]),(33,.row 1 (tk.map AV.bool))]⟩ (fun e t=>e= .exit 0∧t=⟨[],[]⟩):=by
 exact gE ⟨rfl,rfl⟩ 0 [.is false] [] [] (aC1 (show decide ((↑xs.length:Int)<(↑(xs.map Li.av).length:Int))=false from by simp))
theorem l24_0 (p:ByteArray) (hd:List Ar) (xs l:List Li) (hB:∀y,y∈l→y.terms.length<100000000) (hsm:l.length<1000000) (hl:xs.length=l.length):∀(m i:Nat) (tk:List Bool),i+m=xs.length→tk.length=l.length→(xs.drop i).Perm (free l tk)→
  Lo 55 (loopOf Tryz.f24 0) ⟨[(2,.elt 2 0 0),(3,.elt 3 0 0),(5,.row 33 0 l.length),(6,.int .i64 (i:Int))],[(2,.var [.str p,.seq (hd.map Ar.av) false,.seq (xs.map Li.av) false]),(3,.var [.str p,.seq (hd.map Ar.av) false,.seq (l.map Li.av) false]),(33,.row 1 (tk.map AV.bool))]⟩ (.exit 0) ⟨[],[]⟩
 |0,i,tk,h0,_,_=>by
  obtain rfl:i=xs.length:=by omega
  obtain ⟨e,t,⟨rfl,rfl⟩,h⟩:=e24 p hd xs l tk
  exact .leave h (by simp)
 |m+1,i,tk,h0,ht,hp=>by
  have hi:i<xs.length:=by omega
  have hx:xs[i]? =some xs[i]:=List.getElem?_eq_getElem hi
  rw [List.drop_eq_getElem_cons hi] at hp
  generalize xs[i]=x at hx hp
  have hm:x∈free l tk:=hp.subset (List.mem_cons_self ..)
  obtain ⟨j,h1,h2,h3,h4⟩:=free_find ht hm
  obtain ⟨e,t,⟨rfl,rfl⟩,h⟩:=t24 p hd xs l tk x i j hi (by omega) ⟨by omega,get_of Li.av hx⟩ (k51r l tk x j ht hsm hB h1 h2 h3) (decide_eq_false (by omega)) (List.getElem?_eq_some_iff.1 h1).1 (List.getElem?_eq_some_iff.1 h2).1 (by
   rw [Nat.zero_add,Int.toNat_natCast,←List.map_set];exact noIdsL_bools _)
  rw [←List.map_set] at h
  exact .turn h (l24_0 p hd xs l hB hsm hl m (i+1) (tk.set j true) (by omega) (by rw [List.length_set,ht]) ((hp.trans h4).cons_inv))
theorem b24 (hl:(!decide (((xs.map Li.av).length:Int)=((l.map Li.av).length:Int)))=false) (hpp:(!decide (p=p))=false) (hsm:l.length<1000000) (k50:Sp 50 [.seq (hd.map Ar.av) false,.seq (hd.map Ar.av) false] [] (.bool true) []) (l24_0q:Lo 55 (loopOf Tryz.f24 0) ⟨[(2,.elt 2 0 0),(3,.elt 3 0 0),(5,.row 33 0 (l.map Li.av).length),(6,.int .i64 0)],[(2,.var [.str p,.seq (hd.map Ar.av) false,.seq (xs.map Li.av) false]),(3,.var [.str p,.seq (hd.map Ar.av) false,.seq (l.map Li.av) false]),(33,.row 1 (List.replicate (l.map Li.av).length (.bool false)))]⟩ (.exit 0) ⟨[],[]⟩):En 55 (bodyOf Tryz.f24) ⟨[(0,.agg [.str p,.seq (hd.map Ar.av) false,.seq (xs.map Li.av) false]),(1,.agg [.str p,.seq (hd.map Ar.av) false,.seq (l.map Li.av) false])],[]⟩ (fun e t=>e= .ret∧t=⟨[(4,.bool true)],[]⟩):=by
 have hl0:=l24_0q
 exact gE ⟨rfl,rfl⟩ 0 [.is false,.call (.bool true) [] [],.is false,.cut [2,3,5,6] [K1 2,K1 3,K1 33],.sum (.exit 0) [] []] [4] [] (aC8 hpp k50 hl (show (↑(l.map Li.av).length:Int)=(↑(l.map Li.av).length:Int)∧0≤(↑(l.map Li.av).length:Int)∧(↑(l.map Li.av).length:Int)*1≤140737488355328∧(↑(l.map Li.av).length:Int)≤9223372036854775807 from by simp;omega) rT rT (show noIdsL (List.replicate (Int.toNat (↑(l.map Li.av).length:Int)) (AV.bool false))=true from by simp) hl0)
theorem k24 (hB:∀y,y∈l→y.terms.length<100000000) (hsm:l.length<1000000) (hhd:hd.length<1000000) (hp:xs.Perm l):Sp 24 [.agg [.str p,.seq (hd.map Ar.av) false,.seq (xs.map Li.av) false],.agg [.str p,.seq (hd.map Ar.av) false,.seq (l.map Li.av) false]] [] (.bool true) []:=by
 have hl:=hp.length_eq
 obtain ⟨rb,s,hrb⟩:=k50x hd hd (by omega)
 obtain rfl:rb=true:=hrb.2 rfl
 have hL:=l24_0 p hd xs l hB hsm hl xs.length 0 (List.replicate l.length false) (by omega) (by simp) (by rw [free_all];exact hp)
 rw [List.map_replicate] at hL
 obtain ⟨e,t,⟨rfl,rfl⟩,h⟩:=b24 p hd xs l (by simp [hl]) (by simp) hsm s (by rw [List.length_map];exact hL)
 exact sP Tryz.f24 (by simp [noIdsL,noIds]) h (.inr rfl)
end
section
variable (L:List Ad) (nm p:ByteArray) (hd:List Ar) (bd bo:List Li) (ts:List Tm)
def Un (L:List Ad) (bd bo:List Li):Prop:=bo.length=bd.length∧∀(i:Nat) (x:Li),bd[i]? =some x→∃pl:Int,Sp 22 [.seq (L.map adA) false,.str x.p] [] (.int .i64 pl) []∧((pl= -1∧bo[i]? =some x)∨∃(q:Nat) (a:Ad),pl=(q:Int)∧L[q]? =some a∧bo[i]? =some {x with p:=a.1})
def bV:List Li→AV
 |[]=> .nils
 |x::r=> .row 160 0 ((x::r).map Li.av).length
def bP:List Li→List (Nat×Ob)
 |[]=>[]
 |x::r=>[(160,.row 16 ((x::r).map Li.av))]
theorem t25na (L:List Ad) (nm p:ByteArray) (hd:List Ar) (bd:List Li) (i:Nat) (x:Li) (hi:i<bd.length) (hsm:bd.length<1000000) (hx:0≤(i:Int)∧(bd.map Li.av)[Int.toNat (i:Int)]? =some x.av) (k22:Sp 22 [.seq (L.map adA) false,.str x.p] [] (.int .i64 (-1)) []):EN 63 (loopOf Tryz.f25 0) ⟨[(1,.seq (L.map adA) false),(2,.elt 2 0 0),(4,.elt 4 0 0),(5,.elt 5 0 0),(7,.int .i64 (i:Int))],[(2,.var [.str nm,.seq (hd.map Ar.av) false,.seq (bd.map Li.av) false]),(4,.var [.str ⟨#[]⟩,.nils,.nils]),(5,.var [.str p,.seq (hd.map Ar.av) false,.nils])]⟩ ⟨[(1,.seq (L.map adA) false),(2,.elt 2 0 0),(4,.elt 4 0 0),(5,.elt 5 0 0),(7,.int .i64 ((i+1:Nat):Int))],[(2,.var [.str nm,.seq (hd.map Ar.av) false,.seq (bd.map Li.av) false]),(4,.var [.str ⟨#[]⟩,.nils,.nils]),(5,.var [.str p,.seq (hd.map Ar.av) false,.row 160 0 1]),(160,.row 16 [x.av])]⟩:=by
 exact gE ⟨rfl,rfl⟩ 0 [.is true,.elt (Li.av x),.call (.int .i64 (-1)) [] [],.is false,.is true] [1,2,4,5,7] [(2,.keep 2 true),(4,.keep 4 true),(5,.keep 5 false),(60,.keep 160 true)] (aC9 (show decide ((i:Int)<(↑(bd.map Li.av).length:Int))=true from by simp;omega) hx k22 (show false=false from rfl) (show 1≤List.length [AV.agg [AV.int .i8 x.1,AV.str x.2,AV.seq (List.map Tm.av x.3) false,AV.int .i8 x.4,AV.int .i8 (Ex.op (Li.l x)),AV.str (Ex.t (Li.l x)).1,AV.int .i8 (Ex.t (Li.l x)).2,AV.int .i64 (Ex.t (Li.l x)).3,AV.str (Ex.t (Li.l x)).4,AV.seq (List.map Ex.av (Ex.kids (Li.l x))) false,AV.int .i8 (Ex.op (Li.r x)),AV.str (Ex.t (Li.r x)).1,AV.int .i8 (Ex.t (Li.r x)).2,AV.int .i64 (Ex.t (Li.r x)).3,AV.str (Ex.t (Li.r x)).4,AV.seq (List.map Ex.av (Ex.kids (Li.r x))) false]]∧[AV.agg [AV.int .i8 x.1,AV.str x.2,AV.seq (List.map Tm.av x.3) false,AV.int .i8 x.4,AV.int .i8 (Ex.op (Li.l x)),AV.str (Ex.t (Li.l x)).1,AV.int .i8 (Ex.t (Li.l x)).2,AV.int .i64 (Ex.t (Li.l x)).3,AV.str (Ex.t (Li.l x)).4,AV.seq (List.map Ex.av (Ex.kids (Li.l x))) false,AV.int .i8 (Ex.op (Li.r x)),AV.str (Ex.t (Li.r x)).1,AV.int .i8 (Ex.t (Li.r x)).2,AV.int .i64 (Ex.t (Li.r x)).3,AV.str (Ex.t (Li.r x)).4,AV.seq (List.map Ex.av (Ex.kids (Li.r x))) false]]≠[]∧(∀(e:AV),e∈[AV.agg [AV.int .i8 x.1,AV.str x.2,AV.seq (List.map Tm.av x.3) false,AV.int .i8 x.4,AV.int .i8 (Ex.op (Li.l x)),AV.str (Ex.t (Li.l x)).1,AV.int .i8 (Ex.t (Li.l x)).2,AV.int .i64 (Ex.t (Li.l x)).3,AV.str (Ex.t (Li.l x)).4,AV.seq (List.map Ex.av (Ex.kids (Li.l x))) false,AV.int .i8 (Ex.op (Li.r x)),AV.str (Ex.t (Li.r x)).1,AV.int .i8 (Ex.t (Li.r x)).2,AV.int .i64 (Ex.t (Li.r x)).3,AV.str (Ex.t (Li.r x)).4,AV.seq (List.map Ex.av (Ex.kids (Li.r x))) false]]→okE 16 e)∧(∀(e:AV),e∈[]→okE 16 e)∧(↑(0+List.length [AV.agg [AV.int .i8 x.1,AV.str x.2,AV.seq (List.map Tm.av x.3) false,AV.int .i8 x.4,AV.int .i8 (Ex.op (Li.l x)),AV.str (Ex.t (Li.l x)).1,AV.int .i8 (Ex.t (Li.l x)).2,AV.int .i64 (Ex.t (Li.l x)).3,AV.str (Ex.t (Li.l x)).4,AV.seq (List.map Ex.av (Ex.kids (Li.l x))) false,AV.int .i8 (Ex.op (Li.r x)),AV.str (Ex.t (Li.r x)).1,AV.int .i8 (Ex.t (Li.r x)).2,AV.int .i64 (Ex.t (Li.r x)).3,AV.str (Ex.t (Li.r x)).4,AV.seq (List.map Ex.av (Ex.kids (Li.r x))) false]]):Int)*216≤140737488355328∧0+List.length [AV.agg [AV.int .i8 x.1,AV.str x.2,AV.seq (List.map Tm.av x.3) false,AV.int .i8 x.4,AV.int .i8 (Ex.op (Li.l x)),AV.str (Ex.t (Li.l x)).1,AV.int .i8 (Ex.t (Li.l x)).2,AV.int .i64 (Ex.t (Li.l x)).3,AV.str (Ex.t (Li.l x)).4,AV.seq (List.map Ex.av (Ex.kids (Li.l x))) false,AV.int .i8 (Ex.op (Li.r x)),AV.str (Ex.t (Li.r x)).1,AV.int .i8 (Ex.t (Li.r x)).2,AV.int .i64 (Ex.t (Li.r x)).3,AV.str (Ex.t (Li.r x)).4,AV.seq (List.map Ex.av (Ex.kids (Li.r x))) false]]≤9223372036854775807 from by simp) (show IntKind.wrap .i64 ((i:Int)+1)=(i:Int)+1 from wrap64_id (by omega) (by omega)) rT rT rT)
theorem t25nb (i:Nat) (x:Li) (hi:i<bd.length) (hsm:bd.length<1000000) (hx:0≤(i:Int)∧(bd.map Li.av)[Int.toNat (i:Int)]? =some x.av) (q:Nat) (a:Ad) (k22:Sp 22 [.seq (L.map adA) false,.str x.p] [] (.int .i64 (q:Int)) []) (h3:decide ((q:Int)≥0)=true) (hA:0≤(q:Int)∧(L.map adA)[Int.toNat (q:Int)]? =some (.agg [.str a.1,.str a.2])):EN 63 (loopOf Tryz.f25 0) ⟨[(1,.seq (L.map adA) false),(2,.elt 2 0 0),(4,.elt 4 0 0),(5,.elt 5 0 0),(7,.int .i64 (i:Int))],[(2,.var [.str nm,.seq (hd.map Ar.av) false,.seq (bd.map Li.av) false]),(4,.var [.str ⟨#[]⟩,.nils,.nils]),(5,.var [.str p,.seq (hd.map Ar.av) false,.nils])]⟩ ⟨[(1,.seq (L.map adA) false),(2,.elt 2 0 0),(4,.elt 4 0 0),(5,.elt 5 0 0),(7,.int .i64 ((i+1:Nat):Int))],[(2,.var [.str nm,.seq (hd.map Ar.av) false,.seq (bd.map Li.av) false]),(4,.var [.str ⟨#[]⟩,.nils,.nils]),(5,.var [.str p,.seq (hd.map Ar.av) false,.row 160 0 1]),(160,.row 16 [({x with p:=a.1}:Li).av])]⟩:=by
 exact gE ⟨rfl,rfl⟩ 0 [.is true,.elt (Li.av x),.call (.int .i64 (q:Int)) [] [],.is true,.elt (.agg [.str (Prod.fst a),.str (Prod.snd a)]),.is true] [1,2,4,5,7] [K1 2,K1 4,K0 5,(60,.keep 160 true)] (aC10 (d1 Li.av bd i (by omega)) hx k22 rT hA (show 1≤List.length [AV.agg (LiP x a.1)]∧[AV.agg (LiP x a.1)]≠[]∧(∀(e:AV),e∈[AV.agg (LiP x a.1)]→okE 16 e)∧(∀(e:AV),e∈[]→okE 16 e)∧(↑(0+List.length [AV.agg (LiP x a.1)]):Int)*216≤140737488355328∧0+List.length [AV.agg (LiP x a.1)]≤9223372036854775807 from by simp[LiP]) (w1 i (by omega)) rT rT rT)
theorem e25n:En 63 (loopOf Tryz.f25 0) ⟨[(1,.seq (L.map adA) false),(2,.elt 2 0 0),(4,.elt 4 0 0),(5,.elt 5 0 0),(7,.int .i64 ((bd.length:Nat):Int))],[(2,.var [.str nm,.seq (hd.map Ar.av) false,.seq (bd.map Li.av) false]),(4,.var [.str ⟨#[]⟩,.nils,.nils]),(5,.var [.str p,.seq (hd.map Ar.av) false,.nils])]⟩ (fun e t=>e= .exit 0∧t=⟨[(4,.elt 4 0 0),(5,.elt 5 0 0)],[(4,.var [.str ⟨#[]⟩,.nils,.nils]),(5,.var [.str p,.seq (hd.map Ar.av) false,.nils])]⟩):=by
 exact gE ⟨rfl,rfl⟩ 0 [.is false] [4,5] [K1 4,K1 5] (aC3 (zsvzxo bd) rT rT)
theorem t25ra (L:List Ad) (nm p:ByteArray) (hd:List Ar) (bd:List Li) (bo:List Li) (hok:∀e,e∈bo.map Li.av→okE 16 e) (hbl:bo.length<1000000) (i:Nat) (x:Li) (hi:i<bd.length) (hsm:bd.length<1000000) (hx:0≤(i:Int)∧(bd.map Li.av)[Int.toNat (i:Int)]? =some x.av) (k22:Sp 22 [.seq (L.map adA) false,.str x.p] [] (.int .i64 (-1)) []):EN 63 (loopOf Tryz.f25 0) ⟨[(1,.seq (L.map adA) false),(2,.elt 2 0 0),(4,.elt 4 0 0),(5,.elt 5 0 0),(7,.int .i64 (i:Int))],[(2,.var [.str nm,.seq (hd.map Ar.av) false,.seq (bd.map Li.av) false]),(4,.var [.str ⟨#[]⟩,.nils,.nils]),(5,.var [.str p,.seq (hd.map Ar.av) false,.row 160 0 (bo.map Li.av).length]),(160,.row 16 (bo.map Li.av))]⟩ ⟨[(1,.seq (L.map adA) false),(2,.elt 2 0 0),(4,.elt 4 0 0),(5,.elt 5 0 0),(7,.int .i64 ((i+1:Nat):Int))],[(2,.var [.str nm,.seq (hd.map Ar.av) false,.seq (bd.map Li.av) false]),(4,.var [.str ⟨#[]⟩,.nils,.nils]),(5,.var [.str p,.seq (hd.map Ar.av) false,.row 160 0 ((bo.map Li.av).length+1)]),(160,.row 16 (bo.map Li.av++[x.av]))]⟩:=by
 exact gE ⟨rfl,rfl⟩ 0 [.is true,.elt (Li.av x),.call (.int .i64 (-1)) [] [],.is false,.is true] [1,2,4,5,7] [(2,.keep 2 true),(4,.keep 4 true),(5,.keep 5 false),(60,.keep 160 true)] (aC9 (show decide ((i:Int)<(↑(bd.map Li.av).length:Int))=true from by simp;omega) hx k22 (show false=false from rfl) (show (1:Nat)≤List.length [AV.agg [AV.int .i8 x.1,AV.str x.2,AV.seq (List.map Tm.av x.3) false,AV.int .i8 x.4,AV.int .i8 (Ex.op (Li.l x)),AV.str (Ex.t (Li.l x)).1,AV.int .i8 (Ex.t (Li.l x)).2,AV.int .i64 (Ex.t (Li.l x)).3,AV.str (Ex.t (Li.l x)).4,AV.seq (List.map Ex.av (Ex.kids (Li.l x))) false,AV.int .i8 (Ex.op (Li.r x)),AV.str (Ex.t (Li.r x)).1,AV.int .i8 (Ex.t (Li.r x)).2,AV.int .i64 (Ex.t (Li.r x)).3,AV.str (Ex.t (Li.r x)).4,AV.seq (List.map Ex.av (Ex.kids (Li.r x))) false]]∧(0:Nat)=(0:Nat)∧List.length (bo.map Li.av)=List.length (bo.map Li.av)∧(∀(e:AV),e∈[AV.agg [AV.int .i8 x.1,AV.str x.2,AV.seq (List.map Tm.av x.3) false,AV.int .i8 x.4,AV.int .i8 (Ex.op (Li.l x)),AV.str (Ex.t (Li.l x)).1,AV.int .i8 (Ex.t (Li.l x)).2,AV.int .i64 (Ex.t (Li.l x)).3,AV.str (Ex.t (Li.l x)).4,AV.seq (List.map Ex.av (Ex.kids (Li.l x))) false,AV.int .i8 (Ex.op (Li.r x)),AV.str (Ex.t (Li.r x)).1,AV.int .i8 (Ex.t (Li.r x)).2,AV.int .i64 (Ex.t (Li.r x)).3,AV.str (Ex.t (Li.r x)).4,AV.seq (List.map Ex.av (Ex.kids (Li.r x))) false]]→okE (16:Nat) e)∧(∀(e:AV),e∈List.map Li.av bo→okE (16:Nat) e)∧(↑(List.length (bo.map Li.av)+List.length [AV.agg [AV.int .i8 x.1,AV.str x.2,AV.seq (List.map Tm.av x.3) false,AV.int .i8 x.4,AV.int .i8 (Ex.op (Li.l x)),AV.str (Ex.t (Li.l x)).1,AV.int .i8 (Ex.t (Li.l x)).2,AV.int .i64 (Ex.t (Li.l x)).3,AV.str (Ex.t (Li.l x)).4,AV.seq (List.map Ex.av (Ex.kids (Li.l x))) false,AV.int .i8 (Ex.op (Li.r x)),AV.str (Ex.t (Li.r x)).1,AV.int .i8 (Ex.t (Li.r x)).2,AV.int .i64 (Ex.t (Li.r x)).3,AV.str (Ex.t (Li.r x)).4,AV.seq (List.map Ex.av (Ex.kids (Li.r x))) false]]):Int)*(216:Int)≤(140737488355328:Int)∧List.length (bo.map Li.av)+List.length [AV.agg [AV.int .i8 x.1,AV.str x.2,AV.seq (List.map Tm.av x.3) false,AV.int .i8 x.4,AV.int .i8 (Ex.op (Li.l x)),AV.str (Ex.t (Li.l x)).1,AV.int .i8 (Ex.t (Li.l x)).2,AV.int .i64 (Ex.t (Li.l x)).3,AV.str (Ex.t (Li.l x)).4,AV.seq (List.map Ex.av (Ex.kids (Li.l x))) false,AV.int .i8 (Ex.op (Li.r x)),AV.str (Ex.t (Li.r x)).1,AV.int .i8 (Ex.t (Li.r x)).2,AV.int .i64 (Ex.t (Li.r x)).3,AV.str (Ex.t (Li.r x)).4,AV.seq (List.map Ex.av (Ex.kids (Li.r x))) false]]≤(9223372036854775807:Nat) from by simp;omega) (show IntKind.wrap .i64 ((i:Int)+1)=(i:Int)+1 from wrap64_id (by omega) (by omega)) rT rT (show noIdsL (List.map Li.av bo++[AV.agg [AV.int .i8 x.1,AV.str x.2,AV.seq (List.map Tm.av x.3) false,AV.int .i8 x.4,AV.int .i8 (Ex.op (Li.l x)),AV.str (Ex.t (Li.l x)).1,AV.int .i8 (Ex.t (Li.l x)).2,AV.int .i64 (Ex.t (Li.l x)).3,AV.str (Ex.t (Li.l x)).4,AV.seq (List.map Ex.av (Ex.kids (Li.l x))) false,AV.int .i8 (Ex.op (Li.r x)),AV.str (Ex.t (Li.r x)).1,AV.int .i8 (Ex.t (Li.r x)).2,AV.int .i64 (Ex.t (Li.r x)).3,AV.str (Ex.t (Li.r x)).4,AV.seq (List.map Ex.av (Ex.kids (Li.r x))) false]])=true from by simp))
theorem t25rb (hok:∀e,e∈bo.map Li.av→okE 16 e) (hbl:bo.length<1000000) (i:Nat) (x:Li) (hi:i<bd.length) (hsm:bd.length<1000000) (hx:0≤(i:Int)∧(bd.map Li.av)[Int.toNat (i:Int)]? =some x.av) (q:Nat) (a:Ad) (k22:Sp 22 [.seq (L.map adA) false,.str x.p] [] (.int .i64 (q:Int)) []) (h3:decide ((q:Int)≥0)=true) (hA:0≤(q:Int)∧(L.map adA)[Int.toNat (q:Int)]? =some (.agg [.str a.1,.str a.2])):EN 63 (loopOf Tryz.f25 0) ⟨[(1,.seq (L.map adA) false),(2,.elt 2 0 0),(4,.elt 4 0 0),(5,.elt 5 0 0),(7,.int .i64 (i:Int))],[(2,.var [.str nm,.seq (hd.map Ar.av) false,.seq (bd.map Li.av) false]),(4,.var [.str ⟨#[]⟩,.nils,.nils]),(5,.var [.str p,.seq (hd.map Ar.av) false,.row 160 0 (bo.map Li.av).length]),(160,.row 16 (bo.map Li.av))]⟩ ⟨[(1,.seq (L.map adA) false),(2,.elt 2 0 0),(4,.elt 4 0 0),(5,.elt 5 0 0),(7,.int .i64 ((i+1:Nat):Int))],[(2,.var [.str nm,.seq (hd.map Ar.av) false,.seq (bd.map Li.av) false]),(4,.var [.str ⟨#[]⟩,.nils,.nils]),(5,.var [.str p,.seq (hd.map Ar.av) false,.row 160 0 ((bo.map Li.av).length+1)]),(160,.row 16 (bo.map Li.av++[({x with p:=a.1}:Li).av]))]⟩:=by
 exact gE ⟨rfl,rfl⟩ 0 [.is true,.elt (Li.av x),.call (.int .i64 (q:Int)) [] [],.is true,.elt (.agg [.str (Prod.fst a),.str (Prod.snd a)]),.is true] [1,2,4,5,7] [K1 2,K1 4,K0 5,(60,.keep 160 true)] (aC10 (d1 Li.av bd i (by omega)) hx k22 rT hA (show (1:Nat)≤List.length [AV.agg (LiP x a.1)]∧(0:Nat)=(0:Nat)∧List.length (bo.map Li.av)=List.length (bo.map Li.av)∧(∀(e:AV),e∈[AV.agg (LiP x a.1)]→okE (16:Nat) e)∧(∀(e:AV),e∈List.map Li.av bo→okE (16:Nat) e)∧(↑(List.length (bo.map Li.av)+List.length [AV.agg (LiP x a.1)]):Int)*(216:Int)≤(140737488355328:Int)∧List.length (bo.map Li.av)+List.length [AV.agg (LiP x a.1)]≤(9223372036854775807:Nat) from by simp[LiP];omega) (w1 i (by omega)) rT rT (show noIdsL (List.map Li.av bo++[AV.agg (LiP x a.1)])=true from by simp[LiP]))
theorem zsc8gp (bo:List Li):noIdsL (bo.map Li.av)=true:=by simp
theorem e25r:En 63 (loopOf Tryz.f25 0) ⟨[(1,.seq (L.map adA) false),(2,.elt 2 0 0),(4,.elt 4 0 0),(5,.elt 5 0 0),(7,.int .i64 ((bd.length:Nat):Int))],[(2,.var [.str nm,.seq (hd.map Ar.av) false,.seq (bd.map Li.av) false]),(4,.var [.str ⟨#[]⟩,.nils,.nils]),(5,.var [.str p,.seq (hd.map Ar.av) false,.row 160 0 (bo.map Li.av).length]),(160,.row 16 (bo.map Li.av))]⟩ (fun e t=>e= .exit 0∧t=⟨[(4,.elt 4 0 0),(5,.elt 5 0 0)],[(4,.var [.str ⟨#[]⟩,.nils,.nils]),(5,.var [.str p,.seq (hd.map Ar.av) false,.row 160 0 (bo.map Li.av).length]),(160,.row 16 (bo.map Li.av))]⟩):=by
 exact gE ⟨rfl,rfl⟩ 0 [.is false] [4,5] [K1 4,K0 5,K1 160] (aC3 (zsvzxo bd) rT (zsc8gp bo))
abbrev Z2u0:Nat×AV:=(1,.seq (L.map adA) false)
abbrev Z2u1:Nat×AV:=(2,.elt 2 0 0)
abbrev Z2u2:Nat×AV:=(4,.elt 4 0 0)
abbrev Z2u3:Nat×AV:=(5,.elt 5 0 0)
abbrev Z2u4:Nat×Ob:=(2,.var [.str nm,.seq (hd.map Ar.av) false,.seq (bd.map Li.av) false])
abbrev Z2u5:Nat×Ob:=(4,.var [.str ⟨#[]⟩,.nils,.nils])
theorem l25_0 (L:List Ad) (nm p:ByteArray) (hd:List Ar) (bd:List Li) (bx:List Li) (hsm:bd.length<1000000) (hu:Un L bd bx):∀(m i:Nat),i+m=bd.length→
  Lo 63 (loopOf Tryz.f25 0) ⟨[Z2u0 L,Z2u1,Z2u2,Z2u3,(7,.int .i64 (i:Int))],Z2u4 nm hd bd::Z2u5::(5,.var [.str p,.seq (hd.map Ar.av) false,bV (bx.take i)])::bP (bx.take i)⟩ (.exit 0) ⟨[Z2u2,Z2u3],Z2u5::(5,.var [.str p,.seq (hd.map Ar.av) false,bV bx])::bP bx⟩
 |0,i,h0=>by
  obtain rfl:i=bd.length:=by omega
  rw [←hu.1,List.take_length,hu.1]
  cases bx with
  |nil=>
   obtain ⟨e,t,⟨rfl,rfl⟩,h⟩:=e25n L nm p hd bd
   exact .leave h (by simp)
  |cons y r=>
   obtain ⟨e,t,⟨rfl,rfl⟩,h⟩:=e25r L nm p hd bd (y::r)
   exact .leave h (by simp)
 |m+1,i,h0=>by
  have hi:i<bd.length:=by omega
  have hx:bd[i]? =some bd[i]:=List.getElem?_eq_getElem hi
  generalize bd[i]=x at hx
  obtain ⟨pl,s22,hpl⟩:=hu.2 i x hx
  have ih:=l25_0 L nm p hd bd bx hsm hu m (i+1) (by omega)
  have gx:0≤(i:Int)∧(bd.map Li.av)[Int.toNat (i:Int)]? =some x.av:=⟨by omega,get_of Li.av hx⟩
  have key:∀z:Li,bx[i]? =some z→bx.take (i+1)=bx.take i++[z]:=fun z hz=>by
   obtain ⟨h1,h2⟩:=List.getElem?_eq_some_iff.1 hz
   rw [List.take_succ_eq_append_getElem h1,h2]
  have hl:(bx.take i).length<1000000:=by have:=hu.1;rw [List.length_take];omega
  rcases hpl with ⟨rfl,hz⟩|⟨q,a,rfl,ha,hz⟩
  ·rw [key _ hz] at ih
   generalize bx.take i=bo at ih hl
   cases bo with
   |nil=>
    obtain ⟨e,t,⟨rfl,rfl⟩,h⟩:=t25na L nm p hd bd i x hi hsm gx s22
    exact .turn h ih
   |cons y r=>
    obtain ⟨e,t,⟨rfl,rfl⟩,h⟩:=t25ra L nm p hd bd (y::r) (ok_lis _) hl i x hi hsm gx s22
    exact .turn (by simpa [bV,bP] using h) ih
  ·have hA:0≤(q:Int)∧(L.map adA)[Int.toNat (q:Int)]? =some (.agg [.str a.1,.str a.2]):=⟨by omega,get_of adA ha⟩
   rw [key _ hz] at ih
   generalize bx.take i=bo at ih hl
   cases bo with
   |nil=>
    obtain ⟨e,t,⟨rfl,rfl⟩,h⟩:=t25nb L nm p hd bd i x hi hsm gx q a s22 (decide_eq_true (by omega)) hA
    exact .turn h ih
   |cons y r=>
    obtain ⟨e,t,⟨rfl,rfl⟩,h⟩:=t25rb L nm p hd bd (y::r) (ok_lis _) hl i x hi hsm gx q a s22 (decide_eq_true (by omega)) hA
    exact .turn (by simpa [bV,bP] using h) ih
abbrev Z2u6:Nat×Ob:=(5,.var [.str p,.seq (hd.map Ar.av) false,.nils])
abbrev Z2u7:Nat×AV:=(0,.agg [.str nm,.seq (hd.map Ar.av) false,.seq (bd.map Li.av) false])
abbrev Z2u8:Nat×Ob:=(4,.var [.str p,.seq (hd.map Ar.av) false,.nils])
abbrev Z2u9:Nat×Ob:=(4,.var [.str (ByteArray.mk #[]),.nils,.nils])
abbrev Z2ub:St:=⟨[Z2u0 L,Z2u1,Z2u2,Z2u3,(7,.int .i64 0)],[Z2u4 nm hd bd,Z2u5,Z2u6 p hd]⟩
theorem b25n (q:Nat) (b:ByteArray) (k22:Sp 22 [.seq (L.map adA) false,.str nm] [] (.int .i64 (q:Int)) []) (h3:decide ((q:Int)≥0)=true) (hA:0≤(q:Int)∧(L.map adA)[Int.toNat (q:Int)]? =some (.agg [.str p,.str b])) (l25_0q:Lo 63 (loopOf Tryz.f25 0) (Z2ub L nm p hd bd) (.exit 0) ⟨[Z2u2,Z2u3],[Z2u5,Z2u6 p hd]⟩):En 63 (bodyOf Tryz.f25) ⟨[Z2u7 nm hd bd,Z2u0 L],[]⟩ (fun e t=>e= .ret∧t=⟨[Z2u2],[Z2u8 p hd]⟩):=by
 have hl0:=l25_0q
 exact gE ⟨rfl,rfl⟩ 0 [.call (.int .i64 (q:Int)) [] [],.is true,.elt (.agg [.str p,.str b]),.cut [1,2,4,5,7] [K1 2,K1 4,K1 5],.sum (.exit 0) [Z2u2,Z2u3] [Z2u9,Z2u6 p hd]] [4] [K1 4] (aC8 k22 rT hA rT rT rT hl0 rT)
abbrev Z2ua:Nat×Ob:=(5,.var [.str p,.seq (hd.map Ar.av) false,.row 160 0 (bo.map Li.av).length])
theorem b25r (q:Nat) (b:ByteArray) (k22:Sp 22 [.seq (L.map adA) false,.str nm] [] (.int .i64 (q:Int)) []) (h3:decide ((q:Int)≥0)=true) (hA:0≤(q:Int)∧(L.map adA)[Int.toNat (q:Int)]? =some (.agg [.str p,.str b])) (l25_0q:Lo 63 (loopOf Tryz.f25 0) (Z2ub L nm p hd bd) (.exit 0) ⟨[Z2u2,Z2u3],[Z2u5,Z2ua p hd bo,(160,.row 16 (bo.map Li.av))]⟩):En 63 (bodyOf Tryz.f25) ⟨[Z2u7 nm hd bd,Z2u0 L],[]⟩ (fun e t=>e= .ret∧t=⟨[Z2u2],[(4,.var [.str p,.seq (hd.map Ar.av) false,.seq (bo.map Li.av) false])]⟩):=by
 have hl0:=l25_0q
 exact gE ⟨rfl,rfl⟩ 0 [.call (.int .i64 (q:Int)) [] [],.is true,.elt (.agg [.str p,.str b]),.cut [1,2,4,5,7] [K1 2,K1 4,K1 5],.sum (.exit 0) [Z2u2,Z2u3] [Z2u9,Z2ua p hd bo,(160,.row 16 (bo.map Li.av))]] [4] [K0 4,(160,.freeze)] (aC9 k22 rT hA rT rT rT hl0 (show List.length (bo.map Li.av)=List.length (bo.map Li.av) from rfl) (zsc8gp bo))
theorem k25 (bx:List Li) (hsm:bd.length<1000000) (hu:Un L bd bx) (q:Nat) (b:ByteArray) (s22:Sp 22 [.seq (L.map adA) false,.str nm] [] (.int .i64 (q:Int)) []) (hq:L[q]? =some (p,b)):Sp 25 [.agg [.str nm,.seq (hd.map Ar.av) false,.seq (bd.map Li.av) false],.seq (L.map adA) false] [] (.agg [.str p,.seq (hd.map Ar.av) false,.seq (bx.map Li.av) false]) []:=by
 have hl:=l25_0 L nm p hd bd bx hsm hu bd.length 0 (by omega)
 have hA:0≤(q:Int)∧(L.map adA)[Int.toNat (q:Int)]? =some (.agg [.str p,.str b]):=⟨by omega,get_of adA hq⟩
 have hn:noIdsL [AV.agg [.str nm,.seq (hd.map Ar.av) false,.seq (bd.map Li.av) false],.seq (L.map adA) false]=true:=by simp [noIdsL,noIds]
 cases bx with
 |nil=>
  obtain ⟨e,t,⟨rfl,rfl⟩,h⟩:=b25n L nm p hd bd q b s22 (decide_eq_true (by omega)) hA hl
  have hs:Sp 25 [.agg [.str nm,.seq (hd.map Ar.av) false,.seq (bd.map Li.av) false],.seq (L.map adA) false] [] (.agg [.str p,.seq (hd.map Ar.av) false,.nils]) []:=Spec.pure (st':=⟨[Z2u2],[Z2u8 p hd]⟩) (fn:=Tryz.f25) (c:=bodyOf Tryz.f25) (by kernel_rfl) (by kernel_rfl) hn h (.inr rfl) (by kernel_rfl) (by simp [noIds,noIdsL])
  refine hs.wkR (.agg _ _ rfl fun i c d h1 h2=> ?_)
  match i,h1,h2 with
  |0,h1,h2=>simp at h1 h2;subst h1;subst h2;exact .refl _
  |1,h1,h2=>simp at h1 h2;subst h1;subst h2;exact .refl _
  |2,h1,h2=>simp at h1 h2;subst h1;subst h2;exact .nils
  |n+3,h1,h2=>simp at h1
 |cons y r=>
  obtain ⟨e,t,⟨rfl,rfl⟩,h⟩:=b25r L nm p hd bd (y::r) q b s22 (decide_eq_true (by omega)) hA hl
  exact Spec.pure (st':=⟨[Z2u2],[(4,.var [.str p,.seq (hd.map Ar.av) false,.seq ((y::r).map Li.av) false])]⟩) (fn:=Tryz.f25) (c:=bodyOf Tryz.f25) (by kernel_rfl) (by kernel_rfl) hn h (.inr rfl) (by kernel_rfl) (by simp [noIds,noIdsL])
theorem t27n (i:Nat) (y:Ar) (hi:i<hd.length) (hsm:hd.length<1000000) (hy:0≤(i:Int)∧(hd.map Ar.av)[Int.toNat (i:Int)]? =some (.agg [.int .i8 0,.str y.t.v,.int .i8 y.t.k,.int .i64 y.t.n,.str y.t.s])) (h0:(!decide ((0:Int)=0))=false):EN 30 (loopOf Tryz.f27 0) ⟨[(2,.elt 2 0 0),(4,.elt 4 0 0),(11,.seq (hd.map Ar.av) false),(12,.int .i64 ((hd.map Ar.av).length:Nat)),(13,.int .i64 (i:Int))],[(2,.var [.str ⟨#[]⟩,.nils]),(4,.var [.str p,.nils])]⟩ ⟨[(2,.elt 2 0 0),(4,.elt 4 0 0),(11,.seq (hd.map Ar.av) false),(12,.int .i64 ((hd.map Ar.av).length:Nat)),(13,.int .i64 ((i+1:Nat):Int))],[(2,.var [.str ⟨#[]⟩,.nils]),(4,.var [.str p,.row 126 0 1]),(126,.row 4 [y.t.av])]⟩:=by
 exact gE ⟨rfl,rfl⟩ 0 [.is true,.elt (.agg [.int .i8 0,.str (Tm.v (Ar.t y)),.int .i8 (Tm.k (Ar.t y)),.int .i64 (Tm.n (Ar.t y)),.str (Tm.s (Ar.t y))]),.is false,.is true] [2,4,11,12,13] [K1 2,K0 4,(26,.keep 126 true)] (aC7 (d1 Ar.av hd i (by omega)) hy rF (show 1≤List.length [AV.agg [AV.str (Ar.t y).1,AV.int .i8 (Ar.t y).2,AV.int .i64 (Ar.t y).3,AV.str (Ar.t y).4]]∧[AV.agg [AV.str (Ar.t y).1,AV.int .i8 (Ar.t y).2,AV.int .i64 (Ar.t y).3,AV.str (Ar.t y).4]]≠[]∧(∀(e:AV),e∈[AV.agg [AV.str (Ar.t y).1,AV.int .i8 (Ar.t y).2,AV.int .i64 (Ar.t y).3,AV.str (Ar.t y).4]]→okE 4 e)∧(∀(e:AV),e∈[]→okE 4 e)∧(↑(0+List.length [AV.agg [AV.str (Ar.t y).1,AV.int .i8 (Ar.t y).2,AV.int .i64 (Ar.t y).3,AV.str (Ar.t y).4]]):Int)*48≤140737488355328∧0+List.length [AV.agg [AV.str (Ar.t y).1,AV.int .i8 (Ar.t y).2,AV.int .i64 (Ar.t y).3,AV.str (Ar.t y).4]]≤9223372036854775807 from by simp) (w1 i (by omega)) rT rT)
theorem e27n:En 30 (loopOf Tryz.f27 0) ⟨[(2,.elt 2 0 0),(4,.elt 4 0 0),(11,.seq (hd.map Ar.av) false),(12,.int .i64 ((hd.map Ar.av).length:Nat)),(13,.int .i64 ((hd.length:Nat):Int))],[(2,.var [.str ⟨#[]⟩,.nils]),(4,.var [.str p,.nils])]⟩ (fun e t=>e= .exit 0∧t=⟨[(2,.elt 2 0 0),(4,.elt 4 0 0)],[(2,.var [.str ⟨#[]⟩,.nils]),(4,.var [.str p,.nils])]⟩):=by
 exact gE ⟨rfl,rfl⟩ 0 [.is false] [2,4] [K1 2,K1 4] (aC3 (zs1dwb hd) rT rT)
theorem b27n (l27_0q:Lo 30 (loopOf Tryz.f27 0) ⟨[(2,.elt 2 0 0),(4,.elt 4 0 0),(11,.seq (hd.map Ar.av) false),(12,.int .i64 ((hd.map Ar.av).length:Nat)),(13,.int .i64 0)],[(2,.var [.str ⟨#[]⟩,.nils]),(4,.var [.str p,.nils])]⟩ (.exit 0) ⟨[(2,.elt 2 0 0),(4,.elt 4 0 0)],[(2,.var [.str ⟨#[]⟩,.nils]),(4,.var [.str p,.nils])]⟩):En 30 (bodyOf Tryz.f27) ⟨[(0,.agg [.str p,.seq (hd.map Ar.av) false,.seq (bd.map Li.av) false])],[]⟩ (fun e t=>e= .ret∧t=⟨[(2,.elt 2 0 0),(3,.bool true)],[(2,.var [.str p,.nils])]⟩):=by
 have hl0:=l27_0q
 exact gE ⟨rfl,rfl⟩ 0 [.cut [2,4,11,12,13] [K1 2,K1 4],.sum (.exit 0) [(2,.elt 2 0 0),(4,.elt 4 0 0)] [(2,.var [.str (ByteArray.mk #[]),.nils]),(4,.var [.str p,.nils])]] [2,3] [K1 2] (aC4 rT rT hl0 rT)
theorem t27r (hok:∀e,e∈ts.map Tm.av→okE 4 e) (htl:ts.length<1000000) (i:Nat) (y:Ar) (hi:i<hd.length) (hsm:hd.length<1000000) (hy:0≤(i:Int)∧(hd.map Ar.av)[Int.toNat (i:Int)]? =some (.agg [.int .i8 0,.str y.t.v,.int .i8 y.t.k,.int .i64 y.t.n,.str y.t.s])) (h0:(!decide ((0:Int)=0))=false):EN 30 (loopOf Tryz.f27 0) ⟨[(2,.elt 2 0 0),(4,.elt 4 0 0),(11,.seq (hd.map Ar.av) false),(12,.int .i64 ((hd.map Ar.av).length:Nat)),(13,.int .i64 (i:Int))],[(2,.var [.str ⟨#[]⟩,.nils]),(4,.var [.str p,.row 126 0 (ts.map Tm.av).length]),(126,.row 4 (ts.map Tm.av))]⟩ ⟨[(2,.elt 2 0 0),(4,.elt 4 0 0),(11,.seq (hd.map Ar.av) false),(12,.int .i64 ((hd.map Ar.av).length:Nat)),(13,.int .i64 ((i+1:Nat):Int))],[(2,.var [.str ⟨#[]⟩,.nils]),(4,.var [.str p,.row 126 0 ((ts.map Tm.av).length+1)]),(126,.row 4 (ts.map Tm.av++[y.t.av]))]⟩:=by
 exact gE ⟨rfl,rfl⟩ 0 [.is true,.elt (.agg [.int .i8 0,.str (Tm.v (Ar.t y)),.int .i8 (Tm.k (Ar.t y)),.int .i64 (Tm.n (Ar.t y)),.str (Tm.s (Ar.t y))]),.is false,.is true] [2,4,11,12,13] [K1 2,K0 4,(26,.keep 126 true)] (aC7 (d1 Ar.av hd i (by omega)) hy rF (show (1:Nat)≤List.length [AV.agg [AV.str (Ar.t y).1,AV.int .i8 (Ar.t y).2,AV.int .i64 (Ar.t y).3,AV.str (Ar.t y).4]]∧(0:Nat)=(0:Nat)∧List.length (ts.map Tm.av)=List.length (ts.map Tm.av)∧(∀(e:AV),e∈[AV.agg [AV.str (Ar.t y).1,AV.int .i8 (Ar.t y).2,AV.int .i64 (Ar.t y).3,AV.str (Ar.t y).4]]→okE (4:Nat) e)∧(∀(e:AV),e∈List.map Tm.av ts→okE (4:Nat) e)∧(↑(List.length (ts.map Tm.av)+List.length [AV.agg [AV.str (Ar.t y).1,AV.int .i8 (Ar.t y).2,AV.int .i64 (Ar.t y).3,AV.str (Ar.t y).4]]):Int)*(48:Int)≤(140737488355328:Int)∧List.length (ts.map Tm.av)+List.length [AV.agg [AV.str (Ar.t y).1,AV.int .i8 (Ar.t y).2,AV.int .i64 (Ar.t y).3,AV.str (Ar.t y).4]]≤(9223372036854775807:Nat) from by simp;omega) (w1 i (by omega)) rT (show noIdsL (List.map Tm.av ts++[AV.agg [AV.str (Ar.t y).1,AV.int .i8 (Ar.t y).2,AV.int .i64 (Ar.t y).3,AV.str (Ar.t y).4]])=true from by simp))
theorem e27r:En 30 (loopOf Tryz.f27 0) ⟨[(2,.elt 2 0 0),(4,.elt 4 0 0),(11,.seq (hd.map Ar.av) false),(12,.int .i64 ((hd.map Ar.av).length:Nat)),(13,.int .i64 ((hd.length:Nat):Int))],[(2,.var [.str ⟨#[]⟩,.nils]),(4,.var [.str p,.row 126 0 (ts.map Tm.av).length]),(126,.row 4 (ts.map Tm.av))]⟩ (fun e t=>e= .exit 0∧t=⟨[(2,.elt 2 0 0),(4,.elt 4 0 0)],[(2,.var [.str ⟨#[]⟩,.nils]),(4,.var [.str p,.row 126 0 (ts.map Tm.av).length]),(126,.row 4 (ts.map Tm.av))]⟩):=by
 exact gE ⟨rfl,rfl⟩ 0 [.is false] [2,4] [K1 2,K0 4,K1 126] (aC3 (zs1dwb hd) rT (zsctum ts))
theorem b27r (l27_0q:Lo 30 (loopOf Tryz.f27 0) ⟨[(2,.elt 2 0 0),(4,.elt 4 0 0),(11,.seq (hd.map Ar.av) false),(12,.int .i64 ((hd.map Ar.av).length:Nat)),(13,.int .i64 0)],[(2,.var [.str ⟨#[]⟩,.nils]),(4,.var [.str p,.nils])]⟩ (.exit 0) ⟨[(2,.elt 2 0 0),(4,.elt 4 0 0)],[(2,.var [.str ⟨#[]⟩,.nils]),(4,.var [.str p,.row 126 0 (ts.map Tm.av).length]),(126,.row 4 (ts.map Tm.av))]⟩):En 30 (bodyOf Tryz.f27) ⟨[(0,.agg [.str p,.seq (hd.map Ar.av) false,.seq (bd.map Li.av) false])],[]⟩ (fun e t=>e= .ret∧t=⟨[(2,.elt 2 0 0),(3,.bool true)],[(2,.var [.str p,.seq (ts.map Tm.av) false])]⟩):=by
 have hl0:=l27_0q
 exact gE ⟨rfl,rfl⟩ 0 [.cut [2,4,11,12,13] [K1 2,K1 4],.sum (.exit 0) [(2,.elt 2 0 0),(4,.elt 4 0 0)] [(2,.var [.str (ByteArray.mk #[]),.nils]),(4,.var [.str p,.row 126 0 (ts.map Tm.av).length]),(126,.row 4 (ts.map Tm.av))]] [2,3] [K0 2,(126,.freeze)] (aC5 rT rT hl0 (show List.length (ts.map Tm.av)=List.length (ts.map Tm.av) from rfl) (zsctum ts))
def hTV:List Tm→AV
 |[]=> .nils
 |x::r=> .row 126 0 ((x::r).map Tm.av).length
def hTP:List Tm→List (Nat×Ob)
 |[]=>[]
 |x::r=>[(126,.row 4 ((x::r).map Tm.av))]
theorem l27_0 (p:ByteArray) (hd:List Ar) (hsm:hd.length<1000000) (hg:∀y,y∈hd→y.g=0):∀(m i:Nat),i+m=hd.length→
  Lo 30 (loopOf Tryz.f27 0) ⟨[(2,.elt 2 0 0),(4,.elt 4 0 0),(11,.seq (hd.map Ar.av) false),(12,.int .i64 ((hd.map Ar.av).length:Nat)),(13,.int .i64 (i:Int))],(2,.var [.str ⟨#[]⟩,.nils])::(4,.var [.str p,hTV ((hd.map Ar.t).take i)])::hTP ((hd.map Ar.t).take i)⟩ (.exit 0) ⟨[(2,.elt 2 0 0),(4,.elt 4 0 0)],(2,.var [.str ⟨#[]⟩,.nils])::(4,.var [.str p,hTV (hd.map Ar.t)])::hTP (hd.map Ar.t)⟩
 |0,i,h0=>by
  obtain rfl:i=hd.length:=by omega
  rw [show (hd.map Ar.t).take hd.length=hd.map Ar.t from List.take_of_length_le (by simp)]
  generalize hd.map Ar.t=ts
  cases ts with
  |nil=>
   obtain ⟨e,t,⟨rfl,rfl⟩,h⟩:=e27n p hd
   exact .leave h (by simp)
  |cons y r=>
   obtain ⟨e,t,⟨rfl,rfl⟩,h⟩:=e27r p hd (y::r)
   exact .leave h (by simp)
 |m+1,i,h0=>by
  have hi:i<hd.length:=by omega
  have hx:hd[i]? =some hd[i]:=List.getElem?_eq_getElem hi
  generalize hd[i]=y at hx
  have ih:=l27_0 p hd hsm hg m (i+1) (by omega)
  have gx:0≤(i:Int)∧(hd.map Ar.av)[Int.toNat (i:Int)]? =some (.agg [.int .i8 0,.str y.t.v,.int .i8 y.t.k,.int .i64 y.t.n,.str y.t.s]):=⟨by omega,by
   rw [←hg y (List.mem_of_getElem? hx)];exact get_of Ar.av hx⟩
  have key:(hd.map Ar.t).take (i+1)=(hd.map Ar.t).take i++[y.t]:=by
   have h1:i<(hd.map Ar.t).length:=by simpa using hi
   rw [List.take_succ_eq_append_getElem h1]
   congr 2
   have:=hx
   rw [List.getElem?_eq_getElem hi] at this
   simp [Option.some.inj this]
  have hl:((hd.map Ar.t).take i).length<1000000:=by rw [List.length_take,List.length_map];omega
  rw [key] at ih
  generalize (hd.map Ar.t).take i=ts at ih hl
  cases ts with
  |nil=>
   obtain ⟨e,t,⟨rfl,rfl⟩,h⟩:=t27n p hd i y hi hsm gx (by simp)
   exact .turn h ih
  |cons z r=>
   obtain ⟨e,t,⟨rfl,rfl⟩,h⟩:=t27r p hd (z::r) (ok_tms _) hl i y hi hsm gx (by simp)
   exact .turn (by simpa [hTV,hTP] using h) ih
abbrev Z2uc:List (Nat×AV):=[Z2u1,(3,.bool true)]
theorem k27 (hsm:hd.length<1000000) (hg:∀y,y∈hd→y.g=0):Sp 27 [.agg [.str p,.seq (hd.map Ar.av) false,.seq (bd.map Li.av) false]] [] (.tup [.agg [.str p,.seq ((hd.map Ar.t).map Tm.av) false],.bool true]) []:=by
 have hl:=l27_0 p hd hsm hg hd.length 0 (by omega)
 have hn:noIdsL [AV.agg [.str p,.seq (hd.map Ar.av) false,.seq (bd.map Li.av) false]]=true:=by simp [noIdsL,noIds]
 generalize hd.map Ar.t=ts at hl
 cases ts with
 |nil=>
  obtain ⟨e,t,⟨rfl,rfl⟩,h⟩:=b27n p hd bd (by rw [List.length_map] at*;exact hl)
  have h':=h.post (le_wkVar (n:=30) (st:=⟨Z2uc,[(2,.var [.str p,.nils])]⟩) 2 (ds:=[.str p,.seq [] false]) rfl rfl (fun j x y h1 h2=>by
   match j,h1,h2 with
   |0,h1,h2=>simp at h1 h2;subst h1;subst h2;exact .refl _
   |1,h1,h2=>simp at h1 h2;subst h1;subst h2;exact .nils
   |k+2,h1,h2=>simp at h1) (fun j sz es h=>by
   match j,h with
   |0,h=>simp at h
   |1,h=>simp at h
   |k+2,h=>simp at h))
  exact Spec.pure (st':=⟨Z2uc,[(2,.var [.str p,.seq [] false])]⟩) (fn:=Tryz.f27) (c:=bodyOf Tryz.f27) (by kernel_rfl) (by kernel_rfl) hn h' (.inr rfl) (by kernel_rfl) (by simp [noIds,noIdsL])
 |cons y r=>
  obtain ⟨e,t,⟨rfl,rfl⟩,h⟩:=b27r p hd bd (y::r) hl
  exact Spec.pure (st':=⟨Z2uc,[(2,.var [.str p,.seq ((y::r).map Tm.av) false])]⟩) (fn:=Tryz.f27) (c:=bodyOf Tryz.f27) (by kernel_rfl) (by kernel_rfl) hn h (.inr rfl) (by kernel_rfl) (by simp [noIds,noIdsL])
end
section
variable (rules:List Ru) (rem rn:List ByteArray) (vs:List AV)
def maxH:List Ru→Nat
 |[]=>0
 |r::l=>max r.hd.length (maxH l)
theorem maxH_app (l:List Ru) (y:Ru):maxH (l++[y])=max (maxH l) y.hd.length:=by
 induction l with
 |nil=>simp [maxH]
 |cons r l ih=>simp only [List.cons_append,maxH,ih];omega
theorem maxH_le {l:List Ru} {r:Ru} (h:r∈l):r.hd.length≤maxH l:=by
 induction l with
 |nil=>simp at h
 |cons a l ih=>
  simp only [maxH]
  rcases List.mem_cons.1 h with rfl|h
  ·omega
  ·have:=ih h;omega
def wd (R:List Ru) (u:ByteArray):Nat:=maxH (rulesOf R u)
def wV (R:List Ru) (rn:List ByteArray):List AV:=rn.map fun u=> .int .i64 ((wd R u:Nat):Int)
@[simp] theorem noIds_wV (R:List Ru) (rn:List ByteArray):noIdsL (wV R rn)=true:=noIdsL_of (fun u=>AV.int .i64 ((wd R u:Nat):Int)) (fun _=>rfl) rn
theorem wd_app (R:List Ru) (y:Ru) (u:ByteArray):wd (R++[y]) u=if y.p=u then max (wd R u) y.hd.length else wd R u:=by
 unfold wd
 rw [rulesOf_app]
 by_cases h:y.p=u
 ·rw [if_pos h,if_pos h,maxH_app]
 ·rw [if_neg h,if_neg h,List.append_nil]
theorem wd_nil {R:List Ru} {rn:List ByteArray} (h:RN R rn) {u:ByteArray} (hu:u∉rn):wd R u=0:=by
 unfold wd;rw [rulesOf_nil h hu];rfl
theorem wV_new {R:List Ru} {rn:List ByteArray} {y:Ru} (h:RN R rn) (hu:y.p∉rn):wV (R++[y]) (rn++[y.p])=wV R rn++[.int .i64 ((y.hd.length:Nat):Int)]:=by
 unfold wV
 rw [List.map_append]
 congr 1
 ·refine List.map_congr_left fun u hm=> ?_
  rw [wd_app,if_neg (fun e=>hu (by rw [e];exact hm))]
 ·simp only [List.map_cons,List.map_nil]
  rw [wd_app,if_pos rfl,wd_nil h hu,Nat.zero_max]
theorem wV_old {R:List Ru} {rn:List ByteArray} {y:Ru} {j:Nat} (hn:rn.Nodup) (hj:rn[j]? =some y.p):wV (R++[y]) rn=(wV R rn).set j (.int .i64 ((max (wd R y.p) y.hd.length:Nat):Int)):=by
 apply List.ext_getElem?
 intro k
 by_cases e:j=k
 ·subst e
  have hlt:j<(wV R rn).length:=by unfold wV;rw [List.length_map];exact (List.getElem?_eq_some_iff.1 hj).1
  rw [List.getElem?_set_self hlt]
  unfold wV
  rw [List.getElem?_map,hj]
  simp only [Option.map_some]
  rw [wd_app,if_pos rfl]
 ·rw [List.getElem?_set_ne e]
  unfold wV
  rw [List.getElem?_map,List.getElem?_map]
  cases hk:rn[k]? with
  |none=>rfl
  |some u=>
   simp only [Option.map_some]
   have:y.p≠u:=by
    rintro rfl
    exact e (nodup_get hn hj hk)
   rw [wd_app,if_neg this]
abbrev Z2v0:Nat×AV:=(0,.seq (rules.map Ru.av) false)
abbrev Z2v1 (i:Nat):Nat×AV:=(4,.int .i64 (i:Int))
abbrev Z2v2:Nat×Ob:=(13,.map (rn.map AV.str) vs)
abbrev Z2v3 (i:Nat):Nat×AV:=(4,.int .i64 ((i+1:Nat):Int))
theorem t17n (hv:noIdsL vs=true) (y:Ru) (i:Nat) (hi:i<rules.length) (hsm:rules.length≤1048576) (hx:0≤(i:Int)∧(rules.map Ru.av)[Int.toNat (i:Int)]? =some y.av) (hf:findA true (.str y.p) (rn.map AV.str) 0=some none):En 95 (loopOf Tryz.f17 0) ⟨[Z2v0 rules,(3,.map 13),Z2v1 i],[Z2v2 rn vs]⟩ (fun e t=>e= .normal∧∃m:Int,m=((y.hd.map Ar.av).length:Nat)∧t=⟨[Z2v0 rules,(3,.map 13),Z2v3 i],[(13,.map (rn.map AV.str++[.str y.p]) (vs++[.int .i64 m]))]⟩):=by
 exact ⟨Out.normal,St.mk [Z2v0 rules,(3,AV.map 13),(4,.int .i64 ((i:Int)+1))] [(13,.map (rn.map AV.str++[.str y.1]) (vs++[.int .i64 (Decidable.rec (fun (h:¬(↑(List.length (List.map Ar.av (Ru.hd y))):Int)>0)=>(fun (x:¬(↑(List.length (List.map Ar.av (Ru.hd y))):Int)>0)=>0) h) (fun (h:(↑(List.length (List.map Ar.av (Ru.hd y))):Int)>0)=>(fun (x:(↑(List.length (List.map Ar.av (Ru.hd y))):Int)>0)=>(↑(List.length (List.map Ar.av (Ru.hd y))):Int)) h) (Int.decLt 0 (↑(List.length (List.map Ar.av (Ru.hd y))):Int)))]))],⟨rfl,_,by (have h0:=Int.natCast_nonneg ((y.hd.map Ar.av).length);cases Int.decLt 0 ((y.hd.map Ar.av).length:Nat)<;>(first|rfl|(dsimp only;omega))),rfl⟩,gA 0 [.is true,.elt (Ru.av y),.elt (Ru.av y),.is false,.elt (Ru.av y),.is false] [0,3,4] [K1 13] (by kernel_rfl) (aC8 (d1 Ru.av rules i (by omega)) hx hx hf hx hf (w1 i (by omega)) (show noIdsL (List.map AV.str rn++[AV.str y.1])=true∧noIdsL (vs++[AV.int .i64 (Decidable.rec (fun (h:¬(↑(List.length (List.map Ar.av (Ru.hd y))):Int)>0)=>(fun (x:¬(↑(List.length (List.map Ar.av (Ru.hd y))):Int)>0)=>0) h) (fun (h:(↑(List.length (List.map Ar.av (Ru.hd y))):Int)>0)=>(fun (x:(↑(List.length (List.map Ar.av (Ru.hd y))):Int)>0)=>(↑(List.length (List.map Ar.av (Ru.hd y))):Int)) h) (Int.decLt 0 (↑(List.length (List.map Ar.av (Ru.hd y))):Int)))])=true from by simp;omega))⟩
theorem t17o (hv:noIdsL vs=true) (y:Ru) (i:Nat) (hi:i<rules.length) (hsm:rules.length≤1048576) (hx:0≤(i:Int)∧(rules.map Ru.av)[Int.toNat (i:Int)]? =some y.av) (j:Nat) (wj:Int) (hw:0≤wj∧wj≤9223372036854775807) (hf:findA true (.str y.p) (rn.map AV.str) 0=some (some j)) (hfv:∃j',findA true (.str y.p) (rn.map AV.str) 0=some (some j')∧vs[j']? =some (.int .i64 wj)):En 95 (loopOf Tryz.f17 0) ⟨[Z2v0 rules,(3,.map 13),Z2v1 i],[Z2v2 rn vs]⟩ (fun e t=>e= .normal∧∃m:Int,m=max wj ((y.hd.map Ar.av).length:Nat)∧t=⟨[Z2v0 rules,(3,.map 13),Z2v3 i],[(13,.map ((rn.map AV.str).set (Int.toNat (j:Int)) (.str y.p)) (vs.set (Int.toNat (j:Int)) (.int .i64 m)))]⟩):=by
 exact ⟨Out.normal,St.mk [Z2v0 rules,(3,AV.map 13),(4,.int .i64 ((i:Int)+1))] [(13,.map (List.set (rn.map AV.str) (Int.toNat (j:Int)) (.str y.1)) (List.set vs (Int.toNat (j:Int)) (.int .i64 (Decidable.rec (fun (h:¬(↑(List.length (List.map Ar.av (Ru.hd y))):Int)>wj)=>(fun (x:¬(↑(List.length (List.map Ar.av (Ru.hd y))):Int)>wj)=>wj) h) (fun (h:(↑(List.length (List.map Ar.av (Ru.hd y))):Int)>wj)=>(fun (x:(↑(List.length (List.map Ar.av (Ru.hd y))):Int)>wj)=>(↑(List.length (List.map Ar.av (Ru.hd y))):Int)) h) (Int.decLt wj (↑(List.length (List.map Ar.av (Ru.hd y))):Int))))))],⟨rfl,_,by (have h0:=Int.natCast_nonneg ((y.hd.map Ar.av).length);cases Int.decLt wj ((y.hd.map Ar.av).length:Nat)<;>(first|rfl|(dsimp only;omega))),rfl⟩,gA 0 [.is true,.elt (Ru.av y),.elt (Ru.av y),.elt (.int .i64 wj),.elt (Ru.av y),.elt (.int .i64 (j:Int))] [0,3,4] [K1 13] (by kernel_rfl) (aC8 (d1 Ru.av rules i (by omega)) hx hx hfv hx hf (w1 i (by omega)) (show noIdsL (List.set (rn.map AV.str) (Int.toNat (j:Int)) (AV.str y.1))=true∧noIdsL (List.set vs (Int.toNat (j:Int)) (AV.int .i64 (Decidable.rec (fun (h:¬(↑(List.length (List.map Ar.av (Ru.hd y))):Int)>wj)=>(fun (x:¬(↑(List.length (List.map Ar.av (Ru.hd y))):Int)>wj)=>wj) h) (fun (h:(↑(List.length (List.map Ar.av (Ru.hd y))):Int)>wj)=>(fun (x:(↑(List.length (List.map Ar.av (Ru.hd y))):Int)>wj)=>(↑(List.length (List.map Ar.av (Ru.hd y))):Int)) h) (Int.decLt wj (↑(List.length (List.map Ar.av (Ru.hd y))):Int)))))=true from ⟨noIdsL_setS _ _ _,noIdsL_set hv rfl⟩))⟩
theorem e17 (hv:noIdsL vs=true):En 95 (loopOf Tryz.f17 0) ⟨[Z2v0 rules,(3,.map 13),(4,.int .i64 ((rules.length:Nat):Int))],[Z2v2 rn vs]⟩ (fun e t=>e= .exit 0∧t=⟨[Z2v0 rules,(3,.map 13)],[Z2v2 rn vs]⟩):=by
 exact gE ⟨rfl,rfl⟩ 0 [.is false] [0,3] [K1 13] (aC2 (zsrv5t rules) (show noIdsL (rn.map AV.str)=true∧noIdsL vs=true from by simp;omega))
def min7 (w:Int):Int:=if 7<w then 7 else w
theorem min7_le (w:Int) (h:0≤w):0≤min7 w∧min7 w≤7:=by unfold min7;split<;>omega
theorem shl7:∀m:Nat,m≤7→IntKind.wrap .i64 (shlI 1 (m:Int))=shlI 1 (m:Int)∧1≤shlI 1 (m:Int)∧shlI 1 (m:Int)≤128
 |0,_=>by decide
 |1,_=>by decide
 |2,_=>by decide
 |3,_=>by decide
 |4,_=>by decide
 |5,_=>by decide
 |6,_=>by decide
 |7,_=>by decide
 |m+8,h=>by omega
theorem shlc {m:Int} (h0:0≤m) (h1:m≤7):(0≤m∧m.toNat≤64∧IntKind.wrap .i64 (shlI 1 m)=shlI 1 m)∧1≤shlI 1 m∧shlI 1 m≤128:=by
 obtain ⟨q,rfl⟩:=Int.eq_ofNat_of_zero_le h0
 obtain ⟨a,b,c⟩:=shl7 q (by omega)
 exact ⟨⟨h0,by simp;omega,a⟩,b,c⟩
abbrev Z2v4 (n:Int):Nat×AV:=(5,.int .i64 n)
abbrev Z2v5 (i:Nat):Nat×AV:=(6,.int .i64 (i:Int))
abbrev Z2v6 (k:Nat):Nat×AV:=(7,.int .i64 (k:Int))
abbrev Z2v7:Nat×AV:=(8,.elt 8 0 0)
abbrev Z2v8:Nat×Ob:=(13,.map (rem.map AV.str) vs)
abbrev Z2v9 (x:Li):Nat×Ob:=(8,.var [.str x.p,.seq (x.ts.map Tm.av) false])
abbrev Z2vf (n wj:Int) (i k:Nat) (x:Li):St:=⟨[Z2v0 rules,(3,.map 13),Z2v4 n,Z2v5 i,Z2v6 k,Z2v7,(9,.int .i64 wj)],[Z2v8 rem vs,Z2v9 x]⟩
theorem m17 (hv:noIdsL vs=true) (n:Int) (x:Li) (i k:Nat) (wj:Int) (hw:0≤wj) (hn:0≤n∧n≤1000000000):Rz 95 (regOf Tryz.f17 85) (Z2vf rules rem vs n wj i k x) .normal ⟨[Z2v0 rules,(3,.map 13),(5,.int .i64 (n+shlI 1 (min7 wj))),Z2v5 i,Z2v6 k,Z2v7],[Z2v8 rem vs,Z2v9 x]⟩:=by
 obtain ⟨w0,w7⟩:=min7_le wj hw
 obtain ⟨w1,w2,w3⟩:=shlc w0 w7
 have h:Rz 95 (regOf Tryz.f17 85) (Z2vf rules rem vs n wj i k x) .normal ⟨[Z2v0 rules,(3,.map 13),(5,.int .i64 (n+shlI 1 (min7 wj))),Z2v5 i,Z2v6 k,Z2v7,(9,.int .i64 wj),(85,.int .i64 n),(86,.int .i64 wj),(87,.int .i64 (min7 wj)),(88,.int .i64 (shlI 1 (min7 wj))),(89,.int .i64 (n+shlI 1 (min7 wj)))],[Z2v8 rem vs,Z2v9 x]⟩:=
  ev18 (base:=0) (sc:=[]) [0≤min7 wj∧(min7 wj).toNat≤64∧IntKind.wrap .i64 (shlI 1 (min7 wj))=shlI 1 (min7 wj),IntKind.wrap .i64 (n+shlI 1 (min7 wj))=(n+shlI 1 (min7 wj))] (by kernel_rfl) ⟨w1,wrap64_id (by omega) (by omega),trivial⟩
 exact h.keepR [0,3,5,6,7,8] [K1 13,K1 8] (cs:=[noIdsL (rem.map AV.str)=true∧noIdsL vs=true,noIdsL [AV.str x.p,.seq (x.ts.map Tm.av) false]=true]) rfl ⟨⟨noIdsL_strs rem,hv⟩,rfl,trivial⟩
abbrev Z2va (k:Nat):Nat×AV:=(7,.int .i64 ((k+1:Nat):Int))
abbrev Z2vg (n:Int) (i k:Nat):St:=⟨[Z2v0 rules,(3,.map 13),Z2v4 n,Z2v5 i,Z2v6 k],[Z2v8 rem vs]⟩
theorem v17a (hv:noIdsL vs=true) (n:Int) (r:Ru) (i:Nat) (hx:0≤(i:Int)∧(rules.map Ru.av)[Int.toNat (i:Int)]? =some r.av) (x:Li) (k:Nat) (hkl:(r.bd.map Li.av).length=r.bd.length) (hk:k<r.bd.length) (hks:r.bd.length<10000000000000) (hy:0≤(k:Int)∧(r.bd.map Li.av)[Int.toNat (k:Int)]? =some x.av) (hf:findA true (.str x.p) (rem.map AV.str) 0=some none):EN 95 (loopOf Tryz.f17 2) (Z2vg rules rem vs n i k) ⟨[Z2v0 rules,(3,.map 13),Z2v4 n,Z2v5 i,Z2va k],[Z2v8 rem vs]⟩:=by
 exact gE ⟨rfl,rfl⟩ 0 [.elt (Ru.av r),.is true,.elt (Ru.av r),.elt (Li.av x),.is false] [0,3,5,6,7] [K1 13] (aC7 hx (show decide ((k:Int)<(↑(List.length (List.map Li.av (Ru.bd r))):Int))=true from decide_eq_true (by omega)) hx hy hf (w1 k (by omega)) (show noIdsL (rem.map AV.str)=true∧noIdsL vs=true from by simp;omega))
theorem v17b (hv:noIdsL vs=true) (n:Int) (r:Ru) (i:Nat) (hx:0≤(i:Int)∧(rules.map Ru.av)[Int.toNat (i:Int)]? =some r.av) (x:Li) (k:Nat) (hkl:(r.bd.map Li.av).length=r.bd.length) (hk:k<r.bd.length) (hks:r.bd.length<10000000000000) (hy:0≤(k:Int)∧(r.bd.map Li.av)[Int.toNat (k:Int)]? =some x.av) (wj:Int) (hk3:(!decide (x.k=3))=false) (hf:∃j,findA true (.str x.p) (rem.map AV.str) 0=some (some j)∧vs[j]? =some (.int .i64 wj)):EN 95 (loopOf Tryz.f17 2) (Z2vg rules rem vs n i k) ⟨[Z2v0 rules,(3,.map 13),Z2v4 n,Z2v5 i,Z2va k],[Z2v8 rem vs]⟩:=by
 exact gE ⟨rfl,rfl⟩ 0 [.elt (Ru.av r),.is true,.elt (Ru.av r),.elt (Li.av x),.elt (.int .i64 wj),.elt (Ru.av r),.elt (Li.av x),.is false] [0,3,5,6,7] [K1 13] (aC10 hx (show decide ((k:Int)<(↑(List.length (List.map Li.av (Ru.bd r))):Int))=true from decide_eq_true (by omega)) hx hy hf hx hy hk3 (w1 k (by omega)) (show noIdsL (rem.map AV.str)=true∧noIdsL vs=true from by simp;omega))
theorem d17 (hv:noIdsL vs=true) (n:Int) (r:Ru) (i:Nat) (hx:0≤(i:Int)∧(rules.map Ru.av)[Int.toNat (i:Int)]? =some r.av) (x:Li) (k:Nat) (j:Nat) (hj:findA true (.str x.p) (rem.map AV.str) 0=some (some (Int.toNat (j:Int)))) (hno:∀v,v∈vs→ownV v=false) (hne:noIdsL ((rem.map AV.str).eraseIdx (Int.toNat (j:Int)))=true∧noIdsL (vs.eraseIdx (Int.toNat (j:Int)))=true):EN 95 (regOf Tryz.f17 90) ⟨[Z2v0 rules,(3,.map 13),Z2v4 n,Z2v5 i,Z2v6 k,Z2v7],[Z2v8 rem vs,Z2v9 x]⟩ ⟨[Z2v0 rules,(3,.map 13),Z2v4 n,Z2v5 i,Z2v6 k],[(13,.map ((rem.map AV.str).eraseIdx (Int.toNat (j:Int))) (vs.eraseIdx (Int.toNat (j:Int))))]⟩:=by
 exact ⟨_,_,⟨rfl,rfl⟩,gA 0 [.elt (.int .i64 (j:Int))] [0,3,5,6,7] [K1 13] (by kernel_rfl) (aC3 hj (show∀(v:AV),
 v∈vs→
  (match v with
   |AV.own sz es=>true
   |x=>false)=
   false from by assumption) hne)⟩
abbrev Z2vb (n2:Int):Nat×AV:=(5,.int .i64 n2)
abbrev Z2vc (rem2:List ByteArray) (vs2:List AV):Nat×Ob:=(13,.map (rem2.map AV.str) vs2)
theorem v17c (hv:noIdsL vs=true) (n:Int) (r:Ru) (i:Nat) (hx:0≤(i:Int)∧(rules.map Ru.av)[Int.toNat (i:Int)]? =some r.av) (x:Li) (k:Nat) (hkl:(r.bd.map Li.av).length=r.bd.length) (hk:k<r.bd.length) (hks:r.bd.length<10000000000000) (hy:0≤(k:Int)∧(r.bd.map Li.av)[Int.toNat (k:Int)]? =some x.av) (wj n2:Int) (rem2:List ByteArray) (vs2:List AV) (hv2:noIdsL vs2=true) (hk3:(!decide (x.k=3))=true) (hf:∃j,findA true (.str x.p) (rem.map AV.str) 0=some (some j)∧vs[j]? =some (.int .i64 wj)) (pr17_85p:Rz 95 (regOf Tryz.f17 85) (Z2vf rules rem vs n wj i k x) .normal ⟨[Z2v0 rules,(3,.map 13),Z2vb n2,Z2v5 i,Z2v6 k,Z2v7],[Z2v8 rem vs,Z2v9 x]⟩) (pr17_90p:Rz 95 (regOf Tryz.f17 90) ⟨[Z2v0 rules,(3,.map 13),Z2vb n2,Z2v5 i,Z2v6 k,Z2v7],[Z2v8 rem vs,Z2v9 x]⟩ .normal ⟨[Z2v0 rules,(3,.map 13),Z2vb n2,Z2v5 i,Z2v6 k],[Z2vc rem2 vs2]⟩):EN 95 (loopOf Tryz.f17 2) (Z2vg rules rem vs n i k) ⟨[Z2v0 rules,(3,.map 13),Z2vb n2,Z2v5 i,Z2va k],[Z2vc rem2 vs2]⟩:=by
 have hl0:=pr17_85p
 have hl1:=pr17_90p
 exact gE ⟨rfl,rfl⟩ 0 [.elt (Ru.av r),.is true,.elt (Ru.av r),.elt (Li.av x),.elt (.int .i64 wj),.elt (Ru.av r),.elt (Li.av x),.is true,.cut [0,3,5,6,7,8,9] [K1 13,K1 8],.tell 85 .normal [Z2v0 rules,(3,.map 13),Z2vb n2,Z2v5 i,Z2v6 k,Z2v7] [Z2v8 rem vs,(8,.var [.str (Li.p x),.seq (List.map Tm.av (Li.ts x)) false])],.cut [0,3,5,6,7,8] [K1 13,K1 8],.tell 90 .normal [Z2v0 rules,(3,.map 13),Z2vb n2,Z2v5 i,Z2v6 k] [Z2vc rem2 vs2]] [0,3,5,6,7] [K1 13] (aC16 hx (show decide ((k:Int)<(↑(List.length (List.map Li.av (Ru.bd r))):Int))=true from decide_eq_true (by omega)) hx hy hf hx hy hk3 (show noIdsL (rem.map AV.str)=true∧noIdsL vs=true from by simp;omega) rT hl0 (show noIdsL (rem.map AV.str)=true∧noIdsL vs=true from by simp;omega) rT hl1 (w1 k (by omega)) (show noIdsL (rem2.map AV.str)=true∧noIdsL vs2=true from by simp;omega))
theorem v17e (hv:noIdsL vs=true) (n:Int) (r:Ru) (i:Nat) (hx:0≤(i:Int)∧(rules.map Ru.av)[Int.toNat (i:Int)]? =some r.av):En 95 (loopOf Tryz.f17 2) ⟨[Z2v0 rules,(3,.map 13),Z2v4 n,Z2v5 i,(7,.int .i64 ((r.bd.length:Nat):Int))],[Z2v8 rem vs]⟩ (fun e t=>e= .exit 4∧t=⟨[Z2v0 rules,(3,.map 13),Z2v4 n,Z2v5 i],[Z2v8 rem vs]⟩):=by
 exact gE ⟨rfl,rfl⟩ 0 [.elt (Ru.av r),.is false] [0,3,5,6] [K1 13] (aC3 hx (show decide ((↑(List.length (Ru.bd r)):Int)<(↑(List.length (List.map Li.av (Ru.bd r))):Int))=false from by simp) (show noIdsL (rem.map AV.str)=true∧noIdsL vs=true from by simp;omega))
theorem u17 (hv:noIdsL vs=true) (n:Int) (rem2:List ByteArray) (vs2:List AV) (hv2:noIdsL vs2=true) (n2:Int) (i:Nat) (hi:i<rules.length) (hsm:rules.length≤1048576) (l17_2q:Lo 95 (loopOf Tryz.f17 2) ⟨[Z2v0 rules,(3,.map 13),Z2v4 n,Z2v5 i,(7,.int .i64 0)],[Z2v8 rem vs]⟩ (.exit 4) ⟨[Z2v0 rules,(3,.map 13),Z2vb n2,Z2v5 i],[Z2vc rem2 vs2]⟩):EN 95 (loopOf Tryz.f17 1) ⟨[Z2v0 rules,(3,.map 13),Z2v4 n,Z2v5 i],[Z2v8 rem vs]⟩ ⟨[Z2v0 rules,(3,.map 13),Z2vb n2,(6,.int .i64 ((i+1:Nat):Int))],[Z2vc rem2 vs2]⟩:=by
 have hl0:=l17_2q
 exact gE ⟨rfl,rfl⟩ 0 [.is true,.cut [0,3,5,6,7] [K1 13],.sum (.exit 4) [Z2v0 rules,(3,.map 13),Z2vb n2,Z2v5 i] [Z2vc rem2 vs2]] [0,3,5,6] [K1 13] (aC5 (d1 Ru.av rules i (by omega)) (show noIdsL (rem.map AV.str)=true∧noIdsL vs=true from by simp;omega) hl0 (w1 i (by omega)) (show noIdsL (rem2.map AV.str)=true∧noIdsL vs2=true from by simp;omega))
theorem u17e (hv:noIdsL vs=true) (n:Int):En 95 (loopOf Tryz.f17 1) ⟨[Z2v0 rules,(3,.map 13),Z2v4 n,(6,.int .i64 ((rules.length:Nat):Int))],[Z2v8 rem vs]⟩ (fun e t=>e= .exit 2∧t=⟨[Z2v4 n],[]⟩):=by
 exact gE ⟨rfl,rfl⟩ 0 [.is false] [5] [] (aC1 (zsrv5t rules))
theorem maxH_lt {l:List Ru} {B:Nat} (h0:0<B) (h:∀r,r∈l→r.hd.length<B):maxH l<B:=by
 induction l with
 |nil=>exact h0
 |cons a l ih=>
  have h1:=h a (by simp)
  have h2:=ih fun r hr=>h r (by simp [hr])
  simp only [maxH];omega
theorem wd_lt {rules:List Ru} (hS:∀r,r∈rules→RuS r) (i:Nat) (u:ByteArray):wd (rules.take i) u<10000000000000:=maxH_lt (by omega) fun r hr=>(hS r (List.mem_of_mem_take (mem_rulesOf.1 hr).1)).1
abbrev Z2vd:Nat×Ob:=(13,.map (([]:List ByteArray).map AV.str) [])
abbrev Z2ve:Nat×Ob:=(13,.map (rn.map AV.str) (wV rules rn))
abbrev Z2vh:St:=⟨[Z2v0 rules,(3,.map 13),(4,.int .i64 0)],[Z2vd]⟩
abbrev Z2vi:St:=⟨[Z2v0 rules,(3,.map 13)],[Z2ve rules rn]⟩
abbrev Z2vj (i:Nat):St:=⟨[Z2v0 rules,(3,.map 13),Z2v1 i],[(13,.map (rn.map AV.str) (wV (rules.take i) rn))]⟩
theorem l17_0 (hS:∀r,r∈rules→RuS r) (hsm:rules.length≤1048576):∃rn:List ByteArray,rn.Nodup∧RN rules rn∧Lo 95 (loopOf Tryz.f17 0) (Z2vh rules) (.exit 0) (Z2vi rules rn):=by
 have T:∀(i:Nat) (rn:List ByteArray),i<rules.length→(rn.Nodup∧RN (rules.take i) rn)→En 95 (loopOf Tryz.f17 0) (Z2vj rules rn i) (fun e s=>e= .normal∧∃rn:List ByteArray,(rn.Nodup∧RN (rules.take (i+1)) rn)∧s=⟨[Z2v0 rules,(3,.map 13),Z2v3 i],[(13,.map (rn.map AV.str) (wV (rules.take (i+1)) rn))]⟩):=by
  intro i rn hi ⟨hn,hr⟩
  have hy:rules[i]? =some rules[i]:=List.getElem?_eq_getElem hi
  have htk:rules.take (i+1)=rules.take i++[rules[i]]:=List.take_succ_eq_append_getElem hi
  rw [htk]
  generalize rules[i]=y at hy
  have hx:0≤(i:Int)∧(rules.map Ru.av)[Int.toNat (i:Int)]? =some (Ru.av y):=⟨by omega,get_of Ru.av hy⟩
  by_cases hm:y.p∈rn
  ·obtain ⟨j,hf,hj⟩:=findA_some (i:=0) hm
   rw [Nat.zero_add] at hf
   obtain ⟨r0,q1,q2⟩:=(hr y.p).1 hm
   have hvj:(wV (rules.take i) rn)[j]? =some (.int .i64 ((wd (rules.take i) y.p:Nat):Int)):=by unfold wV;rw [List.getElem?_map,hj];rfl
   have hwl:=wd_lt hS i y.p
   obtain ⟨e,t,⟨rfl,m,hm1,rfl⟩,h⟩:=t17o rules rn (wV (rules.take i) rn) (noIds_wV _ _) y i hi hsm hx j (wd (rules.take i) y.p:Nat) ⟨by omega,by omega⟩ hf ⟨j,hf,hvj⟩
   have e1:m=((max (wd (rules.take i) y.p) y.hd.length:Nat):Int):=by rw [hm1,List.length_map];omega
   rw [Int.toNat_natCast,e1,←wV_old hn hj,set_self (l:=rn.map AV.str) (by rw [List.getElem?_map,hj];rfl)] at h
   exact ⟨_,_,⟨rfl,rn,⟨hn,fun u=>by
    rw [hr]
    constructor
    ·rintro ⟨r,h1,h2⟩;exact ⟨r,by simp [h1],h2⟩
    ·rintro ⟨r,h1,h2⟩
     rcases List.mem_append.1 h1 with h1|h1
     ·exact ⟨r,h1,h2⟩
     ·rw [List.mem_singleton] at h1;subst h1;subst h2;exact ⟨r0,q1,q2⟩⟩,rfl⟩,h⟩
  ·obtain ⟨e,t,⟨rfl,m,hm1,rfl⟩,h⟩:=t17n rules rn (wV (rules.take i) rn) (noIds_wV _ _) y i hi hsm hx (findA_none hm)
   rw [hm1,List.length_map,←wV_new hr hm,show rn.map AV.str++[AV.str y.p]=(rn++[y.p]).map AV.str from by simp] at h
   refine ⟨_,_,⟨rfl,rn++[y.p],⟨List.nodup_append.2 ⟨hn,by simp,fun a ha b hb=> ?_⟩,fun u=> ?_⟩,rfl⟩,h⟩
   ·rw [List.mem_singleton] at hb;subst hb;rintro rfl;exact hm ha
   ·rw [List.mem_append,List.mem_singleton,hr]
    constructor
    ·rintro (⟨r,h1,h2⟩|h1)
     ·exact ⟨r,by simp [h1],h2⟩
     ·exact ⟨y,by simp,h1.symm⟩
    ·rintro ⟨r,h1,h2⟩
     rcases List.mem_append.1 h1 with h1|h1
     ·exact .inl ⟨r,h1,h2⟩
     ·rw [List.mem_singleton] at h1;subst h1;exact .inr h2.symm
 obtain ⟨rn,⟨h1,h2⟩,h⟩:=inv_loop0 (P:=Tryz.prog) (n:=95) (c:=loopOf Tryz.f17 0) (N:=rules.length) (k:=0) (γ:=List ByteArray) (fun i rn=>(Z2vj rules rn i)) (fun rn=>⟨[Z2v0 rules,(3,.map 13)],[(13,.map (rn.map AV.str) (wV (rules.take rules.length) rn))]⟩)
  (fun i rn=>rn.Nodup∧RN (rules.take i) rn) T (fun rn _=>e17 rules rn (wV (rules.take rules.length) rn) (noIds_wV _ _)) [] ⟨by simp,fun u=>by simp⟩
 rw [List.take_length] at h2 h
 exact ⟨rn,h1,h2,h⟩
def sW (rules:List Ru):List ByteArray→Int
 |[]=>0
 |u::r=>shlI 1 (min7 ((wd rules u:Nat):Int))+sW rules r
theorem sW_bound (rules:List Ru):∀D:List ByteArray,0≤sW rules D∧sW rules D≤128*(D.length:Int)
 |[]=>by simp [sW]
 |u::r=>by
  have h1:=sW_bound rules r
  obtain ⟨w0,w7⟩:=min7_le ((wd rules u:Nat):Int) (by omega)
  obtain ⟨_,w2,w3⟩:=shlc w0 w7
  simp only [sW,List.length_cons]
  omega
theorem mem_erase_nodup {α:Type}:∀{l:List α},l.Nodup→∀{j:Nat} {a u:α},l[j]? =some a→(u∈l.eraseIdx j↔u∈l∧u≠a)
 |b::l,hd,0,a,u,h=>by
  simp at h;subst h
  have hb:=(List.nodup_cons.1 hd).1
  simp only [List.eraseIdx_cons_zero,List.mem_cons]
  constructor
  ·intro h;exact ⟨.inr h,by rintro rfl;exact hb h⟩
  ·rintro ⟨h1|h1,h2⟩
   ·exact absurd h1 h2
   ·exact h1
 |b::l,hd,j+1,a,u,h=>by
  simp at h
  have hb:=(List.nodup_cons.1 hd).1
  have ih:=mem_erase_nodup (List.nodup_cons.1 hd).2 (u:=u) h
  simp only [List.eraseIdx_cons_succ,List.mem_cons,ih]
  constructor
  ·rintro (h1|⟨h1,h2⟩)
   ·subst h1;exact ⟨.inl rfl,by rintro rfl;exact hb (List.mem_of_getElem? h)⟩
   ·exact ⟨.inr h1,h2⟩
  ·rintro ⟨h1|h1,h2⟩
   ·exact .inl h1
   ·exact .inr ⟨h1,h2⟩
structure Split (rules:List Ru) (rn rem D:List ByteArray) (n:Int):Prop where
 nr:rem.Nodup
 nd:D.Nodup
 all:∀u,u∈rn↔u∈rem∨u∈D
 apart:∀u,u∈D→u∉rem
 sum:n=sW rules D
theorem Split.bound {rules:List Ru} {rn rem D:List ByteArray} {n:Int} (h:Split rules rn rem D n) (hrn:RN rules rn) (hsm:rules.length≤1048576):0≤n∧n≤200000000:=by
 have h1:D.length≤(rules.map Ru.p).length:=nodup_len h.nd fun u hu=>by
  obtain ⟨r,h1,h2⟩:=(hrn u).1 ((h.all u).2 (.inr hu))
  exact List.mem_map.2 ⟨r,h1,h2⟩
 have h2:=sW_bound rules D
 rw [List.length_map] at h1
 rw [h.sum];omega
theorem l17_2 (hrn:RN rules rn) (hsm:rules.length≤1048576) (r:Ru) (i:Nat) (hx:0≤(i:Int)∧(rules.map Ru.av)[Int.toNat (i:Int)]? =some r.av) (hks:r.bd.length<10000000000000) (rem D:List ByteArray) (n:Int) (hs:Split rules rn rem D n):
  ∃(rem2 D2:List ByteArray) (n2:Int),Split rules rn rem2 D2 n2∧(∀u,u∈D→u∈D2)∧(∀x,x∈r.bd→x.k≠3→x.p∈rn→x.p∈D2)∧Lo 95 (loopOf Tryz.f17 2) ⟨[Z2v0 rules,(3,.map 13),Z2v4 n,Z2v5 i,(7,.int .i64 0)],[(13,.map (rem.map AV.str) (wV rules rem))]⟩ (.exit 4) ⟨[Z2v0 rules,(3,.map 13),Z2vb n2,Z2v5 i],[(13,.map (rem2.map AV.str) (wV rules rem2))]⟩:=by
 have hkl:(r.bd.map Li.av).length=r.bd.length:=List.length_map ..
 have T:∀(k:Nat) (g:List ByteArray×List ByteArray×Int),k<r.bd.length→(Split rules rn g.1 g.2.1 g.2.2∧(∀u,u∈D→u∈g.2.1)∧∀k',k'<k→∀x,r.bd[k']? =some x→x.k≠3→x.p∈rn→x.p∈g.2.1)→En 95 (loopOf Tryz.f17 2) ⟨[Z2v0 rules,(3,.map 13),(5,.int .i64 g.2.2),Z2v5 i,Z2v6 k],[(13,.map (g.1.map AV.str) (wV rules g.1))]⟩ (fun e s=>e= .normal∧∃g:List ByteArray×List ByteArray×Int,(Split rules rn g.1 g.2.1 g.2.2∧(∀u,u∈D→u∈g.2.1)∧∀k',k'<k+1→∀x,r.bd[k']? =some x→x.k≠3→x.p∈rn→x.p∈g.2.1)∧s=⟨[Z2v0 rules,(3,.map 13),(5,.int .i64 g.2.2),Z2v5 i,Z2va k],[(13,.map (g.1.map AV.str) (wV rules g.1))]⟩):=by
  rintro k ⟨rm,D1,n1⟩ hk ⟨h1,h2,h3⟩
  simp only at h1 h2 h3⊢
  have hxk:r.bd[k]? =some r.bd[k]:=List.getElem?_eq_getElem hk
  generalize r.bd[k]=x at hxk
  have hy:0≤(k:Int)∧(r.bd.map Li.av)[Int.toNat (k:Int)]? =some x.av:=⟨by omega,get_of Li.av hxk⟩
  have step:∀D':List ByteArray,(∀u,u∈D1→u∈D')→(x.k≠3→x.p∈rn→x.p∈D')→∀k',k'<k+1→∀x,r.bd[k']? =some x→x.k≠3→x.p∈rn→x.p∈D':=by
   intro D' hs1 hs2 k' hk' z hz hz3 hzr
   rcases Nat.lt_or_ge k' k with hlt|hge
   ·exact hs1 _ (h3 k' hlt z hz hz3 hzr)
   ·have:k'=k:=by omega
    subst this
    rw [hxk] at hz;injection hz with hz;subst hz
    exact hs2 hz3 hzr
  by_cases hm:x.p∈rm
  ·obtain ⟨j,hf,hj⟩:=findA_some (i:=0) hm
   rw [Nat.zero_add] at hf
   have hvj:(wV rules rm)[j]? =some (.int .i64 ((wd rules x.p:Nat):Int)):=by unfold wV;rw [List.getElem?_map,hj];rfl
   by_cases hk3:x.k=3
   ·obtain ⟨e,t,⟨rfl,rfl⟩,h⟩:=v17b rules rm (wV rules rm) (noIds_wV _ _) n1 r i hx x k hkl hk hks hy _ (by simp [hk3]) ⟨j,hf,hvj⟩
    exact ⟨_,_,⟨rfl,(rm,D1,n1),⟨h1,h2,step D1 (fun _ h=>h) (fun h=>absurd hk3 h)⟩,rfl⟩,h⟩
   ·have hb:=h1.bound hrn hsm
    have p1:=m17 rules rm (wV rules rm) (noIds_wV _ _) n1 x i k ((wd rules x.p:Nat):Int) (by omega) ⟨hb.1,by omega⟩
    have ee:(wV rules rm).eraseIdx j=wV rules (rm.eraseIdx j):=mapErase _ rm j
    have es:(rm.map AV.str).eraseIdx j=(rm.eraseIdx j).map AV.str:=mapErase _ rm j
    obtain ⟨e,t,⟨rfl,rfl⟩,p2⟩:=d17 rules rm (wV rules rm) (noIds_wV _ _) (n1+shlI 1 (min7 ((wd rules x.p:Nat):Int))) r i hx x k j (by rw [Int.toNat_natCast];exact hf) (fun v hv=>by
     unfold wV at hv
     obtain ⟨u,_,rfl⟩:=List.mem_map.1 hv
     rfl) (by rw [Int.toNat_natCast,ee,es];exact ⟨noIdsL_strs _,noIds_wV _ _⟩)
    rw [Int.toNat_natCast,ee,es] at p2
    obtain ⟨e,t,⟨rfl,rfl⟩,h⟩:=v17c rules rm (wV rules rm) (noIds_wV _ _) n1 r i hx x k hkl hk hks hy _ _ (rm.eraseIdx j) (wV rules (rm.eraseIdx j)) (noIds_wV _ _) (by simp [hk3]) ⟨j,hf,hvj⟩ p1 p2
    refine ⟨_,_,⟨rfl,(rm.eraseIdx j,x.p::D1,n1+shlI 1 (min7 ((wd rules x.p:Nat):Int))),⟨⟨h1.nr.sublist (List.eraseIdx_sublist ..),List.nodup_cons.2 ⟨fun hd=>h1.apart _ hd hm,h1.nd⟩,fun u=> ?_,fun u hu=> ?_,?_⟩,fun u hu=>by simp [h2 u hu],step _ (fun u hu=>by simp [hu]) (fun _ _=>by simp)⟩,rfl⟩,h⟩
    ·rw [h1.all,mem_erase_nodup h1.nr hj,List.mem_cons]
     constructor
     ·rintro (h4|h4)
      ·by_cases e:u=x.p
       ·exact .inr (.inl e)
       ·exact .inl ⟨h4,e⟩
      ·exact .inr (.inr h4)
     ·rintro (⟨h4,_⟩|rfl|h4)
      ·exact .inl h4
      ·exact .inl hm
      ·exact .inr h4
    ·rw [mem_erase_nodup h1.nr hj]
     rintro ⟨h4,h5⟩
     rcases List.mem_cons.1 hu with h6|h6
     ·exact h5 h6
     ·exact h1.apart u h6 h4
    ·show n1+_=_
     rw [h1.sum]
     simp only [sW]
     omega
  ·obtain ⟨e,t,⟨rfl,rfl⟩,h⟩:=v17a rules rm (wV rules rm) (noIds_wV _ _) n1 r i hx x k hkl hk hks hy (findA_none hm)
   exact ⟨_,_,⟨rfl,(rm,D1,n1),⟨h1,h2,step D1 (fun _ h=>h) (fun _ hr=>((h1.all _).1 hr).resolve_left hm)⟩,rfl⟩,h⟩
 obtain ⟨⟨rm,D1,n1⟩,⟨h1,h2,h3⟩,h⟩:=inv_loop0 (P:=Tryz.prog) (n:=95) (c:=loopOf Tryz.f17 2) (N:=r.bd.length) (k:=4) (γ:=List ByteArray×List ByteArray×Int) (fun k g=>⟨[Z2v0 rules,(3,.map 13),(5,.int .i64 g.2.2),Z2v5 i,Z2v6 k],[(13,.map (g.1.map AV.str) (wV rules g.1))]⟩) (fun g=>⟨[Z2v0 rules,(3,.map 13),(5,.int .i64 g.2.2),Z2v5 i],[(13,.map (g.1.map AV.str) (wV rules g.1))]⟩)
  (fun k g=>Split rules rn g.1 g.2.1 g.2.2∧(∀u,u∈D→u∈g.2.1)∧∀k',k'<k→∀x,r.bd[k']? =some x→x.k≠3→x.p∈rn→x.p∈g.2.1) T (fun g _=>v17e rules g.1 (wV rules g.1) (noIds_wV _ _) g.2.2 r i hx) (rem,D,n) ⟨hs,fun _ h=>h,fun k' hk'=>absurd hk' (Nat.not_lt_zero _)⟩
 refine ⟨rm,D1,n1,h1,h2,fun x hx=> ?_,h⟩
 obtain ⟨k,hk⟩:=List.mem_iff_getElem?.1 hx
 exact h3 k (List.getElem?_eq_some_iff.1 hk).1 x hk
abbrev Z2vk:St:=⟨[Z2v0 rules,(3,.map 13),(5,.int .i64 0),(6,.int .i64 0)],[Z2ve rules rn]⟩
theorem l17_1 (hnd:rn.Nodup) (hrn:RN rules rn) (hS:∀r,r∈rules→RuS r) (hsm:rules.length≤1048576):
  ∃(D:List ByteArray),D.Nodup∧(∀u,u∈D→u∈rn)∧(∀r,r∈rules→∀x,x∈r.bd→x.k≠3→x.p∈rn→x.p∈D)∧Lo 95 (loopOf Tryz.f17 1) (Z2vk rules rn) (.exit 2) ⟨[(5,.int .i64 (sW rules D))],[]⟩:=by
 have T:∀(i:Nat) (g:List ByteArray×List ByteArray×Int),i<rules.length→(Split rules rn g.1 g.2.1 g.2.2∧∀k',k'<i→∀r,rules[k']? =some r→∀x,x∈r.bd→x.k≠3→x.p∈rn→x.p∈g.2.1)→En 95 (loopOf Tryz.f17 1) ⟨[Z2v0 rules,(3,.map 13),(5,.int .i64 g.2.2),Z2v5 i],[(13,.map (g.1.map AV.str) (wV rules g.1))]⟩ (fun e s=>e= .normal∧∃g:List ByteArray×List ByteArray×Int,(Split rules rn g.1 g.2.1 g.2.2∧∀k',k'<i+1→∀r,rules[k']? =some r→∀x,x∈r.bd→x.k≠3→x.p∈rn→x.p∈g.2.1)∧s=⟨[Z2v0 rules,(3,.map 13),(5,.int .i64 g.2.2),(6,.int .i64 ((i+1:Nat):Int))],[(13,.map (g.1.map AV.str) (wV rules g.1))]⟩):=by
  rintro i ⟨rm,D1,n1⟩ hi ⟨h1,h3⟩
  simp only at h1 h3⊢
  have hxk:rules[i]? =some rules[i]:=List.getElem?_eq_getElem hi
  generalize rules[i]=r at hxk
  have hx:0≤(i:Int)∧(rules.map Ru.av)[Int.toNat (i:Int)]? =some r.av:=⟨by omega,get_of Ru.av hxk⟩
  obtain ⟨rem2,D2,n2,s1,s2,s3,hL⟩:=l17_2 rules rn hrn hsm r i hx (hS r (List.mem_of_getElem? hxk)).2.1 rm D1 n1 h1
  obtain ⟨e,t,⟨rfl,rfl⟩,h⟩:=u17 rules rm (wV rules rm) (noIds_wV _ _) n1 rem2 (wV rules rem2) (noIds_wV _ _) n2 i hi hsm hL
  refine ⟨_,_,⟨rfl,(rem2,D2,n2),⟨s1,fun k' hk' z hz=> ?_⟩,rfl⟩,h⟩
  rcases Nat.lt_or_ge k' i with hlt|hge
  ·exact fun x hx hx3 hxr=>s2 _ (h3 k' hlt z hz x hx hx3 hxr)
  ·have:k'=i:=by omega
   subst this
   rw [hxk] at hz;injection hz with hz;subst hz
   exact s3
 obtain ⟨⟨rm,D1,n1⟩,⟨h1,h3⟩,h⟩:=inv_loop0 (P:=Tryz.prog) (n:=95) (c:=loopOf Tryz.f17 1) (N:=rules.length) (k:=2) (γ:=List ByteArray×List ByteArray×Int) (fun i g=>⟨[Z2v0 rules,(3,.map 13),(5,.int .i64 g.2.2),Z2v5 i],[(13,.map (g.1.map AV.str) (wV rules g.1))]⟩) (fun g=>⟨[(5,.int .i64 g.2.2)],[]⟩)
  (fun i g=>Split rules rn g.1 g.2.1 g.2.2∧∀k',k'<i→∀r,rules[k']? =some r→∀x,x∈r.bd→x.k≠3→x.p∈rn→x.p∈g.2.1) T (fun g _=>u17e rules g.1 (wV rules g.1) (noIds_wV _ _) g.2.2) (rn,[],0) ⟨⟨hnd,by simp,fun u=>by simp,fun u hu=>by simp at hu,rfl⟩,fun k' hk'=>absurd hk' (Nat.not_lt_zero _)⟩
 refine ⟨D1,h1.nd,fun u hu=>(h1.all u).2 (.inr hu),fun r hr=> ?_,?_⟩
 ·obtain ⟨k,hk⟩:=List.mem_iff_getElem?.1 hr
  exact h3 k (List.getElem?_eq_some_iff.1 hk).1 r hk
 ·have:=h1.sum
  simp only at this h
  rw [this] at h
  exact h
def PairsB (rules:List Ru):Prop:=∃rn D:List ByteArray,RN rules rn∧D.Nodup∧(∀u,u∈D→u∈rn)∧(∀r,r∈rules→∀x,x∈r.bd→x.k≠3→x.p∈rn→x.p∈D)∧sW rules D≤64
theorem b17t (k43:Sp 43 [.seq (rules.map Ru.av) false] [] (.bool true) []):En 95 (bodyOf Tryz.f17) ⟨[Z2v0 rules],[]⟩ (fun e t=>e= .ret∧t=⟨[(2,.bool true)],[]⟩):=by
 have hs0:=k43
 exact gE ⟨rfl,rfl⟩ 0 [.call (.bool true) [] []] [2] [] (aC1 hs0)
theorem zsg7v0 (rn:List ByteArray) (rules:List Ru):noIdsL (rn.map AV.str)=true∧noIdsL (wV rules rn)=true:=by simp
theorem b17e (n:Int) (k43:Sp 43 [.seq (rules.map Ru.av) false] [] (.bool false) []) (l17_0q:Lo 95 (loopOf Tryz.f17 0) (Z2vh rules) (.exit 0) (Z2vi rules rn)) (l17_1q:Lo 95 (loopOf Tryz.f17 1) (Z2vk rules rn) (.exit 2) ⟨[Z2v4 n],[]⟩):En 95 (bodyOf Tryz.f17) ⟨[Z2v0 rules],[]⟩ (fun e t=>e= .ret∧∃rb:Bool,(rb=false→n≤64)∧t=⟨[(2,.bool rb)],[]⟩):=by
 have hs0:=k43
 have hl1:=l17_0q
 have hl2:=l17_1q
 rcases bft (decide (64<n)) with h3|h3
 ·exact ⟨Out.ret,St.mk [(2,.bool true)] [],⟨rfl,_,by first|(intro h9;cases h9;done)|(intro _;simp at*;omega),rfl⟩,gA 0 [.call (.bool false) [] [],.cut [0,3,4] [K1 13],.sum (.exit 0) [Z2v0 rules,(3,.map 13)] [Z2ve rules rn],.cut [0,3,5,6] [K1 13],.sum (.exit 2) [Z2v4 n] [],.is true] [2] [] (by kernel_rfl) (aC6 hs0 rTT hl1 (zsg7v0 rn rules) hl2 h3)⟩
 ·exact ⟨Out.ret,St.mk [(2,.bool false)] [],⟨rfl,_,by first|(intro h9;cases h9;done)|(intro _;simp at*;omega),rfl⟩,gA 0 [.call (.bool false) [] [],.cut [0,3,4] [K1 13],.sum (.exit 0) [Z2v0 rules,(3,.map 13)] [Z2ve rules rn],.cut [0,3,5,6] [K1 13],.sum (.exit 2) [Z2v4 n] [],.is false] [2] [] (by kernel_rfl) (aC6 hs0 rTT hl1 (zsg7v0 rn rules) hl2 h3)⟩
theorem k17 (hS:∀r,r∈rules→RuS r) (hsm:rules.length<10000000000000):∃rb:Bool,Sp 17 [.seq (rules.map Ru.av) false] [] (.bool rb) []∧(rb=false→rules.length≤1048576∧PairsB rules):=by
 obtain ⟨rb,s43,h43⟩:=k43 rules hS hsm
 cases rb with
 |true=>
  obtain ⟨e,t,⟨rfl,rfl⟩,h⟩:=b17t rules s43
  exact ⟨true,sQ Tryz.f17 h,fun h=>by cases h⟩
 |false=>
  have hl:=h43 rfl
  obtain ⟨rn,hnd,hrn,hL0⟩:=l17_0 rules hS hl
  obtain ⟨D,d1,d2,d3,hL1⟩:=l17_1 rules rn hnd hrn hS hl
  obtain ⟨e,t,⟨rfl,rb,hrb,rfl⟩,h⟩:=b17e rules rn (sW rules D) s43 hL0 hL1
  exact ⟨rb,sQ Tryz.f17 h,fun h0=>⟨hl,rn,D,hrn,d1,d2,d3,hrb h0⟩⟩
end
section
def bfL:Nat→List (List UInt8)
 |0=>[[]]
 |n+1=>(bfL n).flatMap fun s=>[98::s,102::s]
theorem mem_bfL:∀{n:Nat} {s:List UInt8},s∈bfL n↔s.length=n∧∀b,b∈s→b=98∨b=102
 |0,s=>by
  simp only [bfL,List.mem_singleton]
  constructor
  ·rintro rfl;exact ⟨rfl,by simp⟩
  ·rintro ⟨h,_⟩;exact List.eq_nil_of_length_eq_zero h
 |n+1,s=>by
  simp only [bfL,List.mem_flatMap,List.mem_cons,List.not_mem_nil,or_false]
  constructor
  ·rintro ⟨q,hq,rfl|rfl⟩
   ·obtain ⟨h1,h2⟩:=mem_bfL.1 hq
    refine ⟨by simp [h1],fun b hb=> ?_⟩
    rcases List.mem_cons.1 hb with rfl|hb
    ·exact .inl rfl
    ·exact h2 b hb
   ·obtain ⟨h1,h2⟩:=mem_bfL.1 hq
    refine ⟨by simp [h1],fun b hb=> ?_⟩
    rcases List.mem_cons.1 hb with rfl|hb
    ·exact .inr rfl
    ·exact h2 b hb
  ·rintro ⟨h1,h2⟩
   cases s with
   |nil=>simp at h1
   |cons b q=>
    refine ⟨q,mem_bfL.2 ⟨by simpa using h1,fun c hc=>h2 c (by simp [hc])⟩,?_⟩
    rcases h2 b (by simp) with rfl|rfl
    ·exact .inl rfl
    ·exact .inr rfl
theorem patT_bf (ts:List Tm) (ks:List ByteArray):bfs (patT ts ks):=by
 intro b hb
 have e:(patT ts ks).data.toList=ts.map (pb ks):=by simp [patT]
 rw [e] at hb
 obtain ⟨t,_,rfl⟩:=List.mem_map.1 hb
 unfold pb
 split
 ·exact .inl rfl
 ·split
  ·exact .inr rfl
  ·cases hasT ks t.v
   ·exact .inr rfl
   ·exact .inl rfl
theorem shl_bf:∀w:Nat,shlI 1 (min7 (w:Int))≤64→((bfL w).length:Int)=shlI 1 (min7 (w:Int))
 |0,_=>by decide
 |1,_=>by decide
 |2,_=>by decide
 |3,_=>by decide
 |4,_=>by decide
 |5,_=>by decide
 |6,_=>by decide
 |w+7,h=>by
  exfalso
  have:min7 ((w+7:Nat):Int)=7:=by unfold min7;split<;>omega
  rw [this] at h
  revert h
  decide
def prs (rules:List Ru) (D:List ByteArray):List Ad:=D.flatMap fun u=>(bfL (wd rules u)).map fun s=>(u,ByteArray.mk s.toArray)
theorem prs_len (rules:List Ru):∀D:List ByteArray,sW rules D≤64→((prs rules D).length:Int)=sW rules D
 |[],_=>rfl
 |u::r,h=>by
  have h1:=sW_bound rules r
  obtain ⟨w0,w7⟩:=min7_le ((wd rules u:Nat):Int) (by omega)
  obtain ⟨_,w2,w3⟩:=shlc w0 w7
  simp only [sW] at h⊢
  have ih:=prs_len rules r (by omega)
  have hb:=shl_bf (wd rules u) (by omega)
  have e:prs rules (u::r)=((bfL (wd rules u)).map fun s=>(u,ByteArray.mk s.toArray))++prs rules r:=rfl
  rw [e,List.length_append,List.length_map]
  omega
theorem maxH_all {l:List Ru} {B:Nat} (h:∀r,r∈l→r.hd.length≤B):maxH l≤B:=by
 induction l with
 |nil=>exact Nat.zero_le _
 |cons a l ih=>
  have h1:=h a (by simp)
  have h2:=ih fun r hr=>h r (by simp [hr])
  simp only [maxH];omega
section
variable {rules:List Ru} {p:ByteArray} {ts:List Tm} {am:Am}
theorem RefOK.wd (hok:RefOK rules p ts am) {r:Ru} (hr:r∈rules):Ped.wd rules r.p=r.hd.length:=by
 have h1:∀r',r'∈rulesOf rules r.p→r'.hd.length=r.hd.length:=fun r' h=>by
  obtain ⟨h2,h3⟩:=mem_rulesOf.1 h
  have h4:=(hok.numb r' h2).1
  rw [h3] at h4
  have:=am_one hok.nod h4 (hok.numb r hr).1
  omega
 have h2:=maxH_le (mem_rulesOf.2 ⟨hr,rfl⟩:r∈rulesOf rules r.p)
 have h3:=maxH_all (l:=rulesOf rules r.p) (B:=r.hd.length) fun r' h=>by rw [h1 r' h];omega
 unfold Ped.wd;omega
theorem uok (hB:PairsB rules) {rn:List ByteArray} (hrn:RN rules rn) (hok:RefOK rules p ts am) (hp:p∈rn):∃U:List Ad,UOK rules rn U∧(p,patT ts [])∈U:=by
 obtain ⟨rn0,D,h0,hd,hdr,hcov,hsum⟩:=hB
 have same:∀u,u∈rn0↔u∈rn:=fun u=>(h0 u).trans (hrn u).symm
 have inP:∀{a:Ad},a∈prs rules D→a.1∈D∧a.2.size=Ped.wd rules a.1:=by
  intro a ha
  obtain ⟨u,hu,h1⟩:=List.mem_flatMap.1 ha
  obtain ⟨s,hs,rfl⟩:=List.mem_map.1 h1
  exact ⟨hu,(mem_bfL.1 hs).1⟩
 have inB:∀{a:Ad},a∈prs rules D→bfs a.2:=by
  intro a ha
  obtain ⟨u,hu,h1⟩:=List.mem_flatMap.1 ha
  obtain ⟨s,hs,rfl⟩:=List.mem_map.1 h1
  exact (mem_bfL.1 hs).2
 have mk:∀{u s:ByteArray},u∈D→s.size=Ped.wd rules u→bfs s→(u,s)∈prs rules D:=by
  intro u s hu hs hb
  refine List.mem_flatMap.2 ⟨u,hu,List.mem_map.2 ⟨s.data.toList,mem_bfL.2 ⟨hs,hb⟩,?_⟩⟩
  cases s with
  |mk d=>simp
 refine ⟨(p,patT ts [])::prs rules D,⟨?_,fun r hr x hx hk hxp ks=> ?_,fun a ha r hr hrp=> ?_,fun a ha=> ?_,fun a ha=> ?_⟩,by simp⟩
 ·have:=prs_len rules D hsum
  simp only [List.length_cons];omega
 ·refine List.mem_cons_of_mem _ (mk (hcov r hr x hx (by omega) ((same _).2 hxp)) ?_ (patT_bf _ _))
  rw [patT_size]
  obtain ⟨r',h1,h2⟩:=(hrn x.p).1 hxp
  have h3:=(hok.numb r hr).2 x hx (.inl hk)
  have h4:=(hok.numb r' h1).1
  rw [h2] at h4
  have h5:=am_one hok.nod h3 h4
  have h6:=hok.wd h1
  rw [h2] at h6
  omega
 ·rcases List.mem_cons.1 ha with rfl|ha
  ·simp only at hrp⊢
   rw [patT_size]
   have h4:=(hok.numb r hr).1
   rw [hrp] at h4
   have:=hok.ari _ h4
   omega
  ·rw [(inP ha).2,←hrp];exact hok.wd hr
 ·rcases List.mem_cons.1 ha with rfl|ha
  ·refine ⟨hp,hok.short,?_⟩
   simp only
   rw [patT_size];exact hok.few
  ·obtain ⟨h1,h2⟩:=inP ha
   have h3:=(same _).1 (hdr _ h1)
   obtain ⟨r,h4,h5⟩:=(hrn _).1 h3
   obtain ⟨s1,s2,_⟩:=hok.small r h4
   refine ⟨h3,by rw [←h5];exact s1,?_⟩
   rw [h2,←h5,hok.wd h4];exact s2
 ·rcases List.mem_cons.1 ha with rfl|ha
  ·exact patT_bf _ _
  ·exact inB ha
end
end
theorem nameT_list (q s:ByteArray):(nameT q s).data.toList=113::95::(s.data.toList++95::q.data.toList):=by
 unfold nameT
 simp [ByteArray.data_append]
theorem split95:∀{s t a b:List UInt8},(∀x,x∈s→x≠95)→(∀x,x∈t→x≠95)→s++95::a=t++95::b→s=t∧a=b
 |[],[],a,b,_,_,h=>by simpa using h
 |[],y::t,a,b,_,ht,h=>by
  simp only [List.nil_append,List.cons_append,List.cons.injEq] at h
  exact absurd h.1.symm (ht y (by simp))
 |x::s,[],a,b,hs,_,h=>by
  simp only [List.nil_append,List.cons_append,List.cons.injEq] at h
  exact absurd h.1 (hs x (by simp))
 |x::s,y::t,a,b,hs,ht,h=>by
  simp only [List.cons_append,List.cons.injEq] at h
  obtain ⟨h1,h2⟩:=split95 (fun z hz=>hs z (by simp [hz])) (fun z hz=>ht z (by simp [hz])) h.2
  exact ⟨by rw [h.1,h1],h2⟩
theorem bytes_ext {a b:ByteArray} (h:a.data.toList=b.data.toList):a=b:=by
 cases a;cases b
 simpa using h
theorem bfs_no {s:ByteArray} (h:bfs s):∀x,x∈s.data.toList→x≠95:=fun x hx=>by
 rcases h x hx with rfl|rfl<;>decide
theorem nameT_inj {p s p' s':ByteArray} (hs:bfs s) (hs':bfs s') (h:nameT p s=nameT p' s'):p=p'∧s=s':=by
 have h1:=congrArg (fun x:ByteArray=>x.data.toList) h
 simp only [nameT_list,List.cons.injEq,true_and] at h1
 obtain ⟨h2,h3⟩:=split95 (bfs_no hs) (bfs_no hs') h1
 exact ⟨bytes_ext h3,bytes_ext h2⟩
theorem nameT_np (q s:ByteArray):¬np (nameT q s):=by
 have hl:=nameT_list q s
 have hsz:(nameT q s).size=(nameT q s).data.toList.length:=rfl
 rintro (h|h)
 ·rw [hsz,hl] at h
  have:(ByteArray.mk #[113,95]).size=2:=rfl
  rw [this] at h
  simp at h
  omega
 ·apply h
  apply bytes_ext
  have:(ByteArray.mk #[113,95]).size=2:=rfl
  rw [this,ByteArray.data_extract,Array.toList_extract,hl]
  rfl
theorem place_met {L:List Ad} {rn:Int} {nm:ByteArray} (hn:L.Nodup) (hb:∀a,a∈L→bfs a.2) {i:Nat} {a:Ad} (ha:L[i]? =some a) (hnm:nameT a.1 a.2=nm)
  (h:(rn= -1∧∀a,a∈L→nameT a.1 a.2≠nm)∨∃(i:Nat) (a:Ad),rn=(i:Int)∧L[i]? =some a∧nameT a.1 a.2=nm):rn=(i:Int):=by
 rcases h with ⟨_,h⟩|⟨j,b,rfl,h1,h2⟩
 ·exact absurd hnm (h a (List.mem_of_getElem? ha))
 ·obtain ⟨e1,e2⟩:=nameT_inj (hb b (List.mem_of_getElem? h1)) (hb a (List.mem_of_getElem? ha)) (h2.trans hnm.symm)
  have:b=a:=Prod.ext e1 e2
  subst this
  rw [nodup_get hn h1 ha]
theorem place_none {L:List Ad} {rn:Int} {nm:ByteArray} (hnp:np nm) (h:(rn= -1∧∀a,a∈L→nameT a.1 a.2≠nm)∨∃(i:Nat) (a:Ad),rn=(i:Int)∧L[i]? =some a∧nameT a.1 a.2=nm):rn= -1:=by
 rcases h with ⟨h,_⟩|⟨j,b,_,_,h2⟩
 ·exact h
 ·exact absurd (h2▸hnp) (nameT_np b.1 b.2)
section
structure LawC (rules:List Ru) (rn:List ByteArray) (p:ByteArray) (ts:List Tm) (am:Am) (L:List Ad):Prop where
 ok:RefOK rules p ts am
 names:RN rules rn
 nd:L.Nodup
 all:∃U:List Ad,UOK rules rn U∧∀a,a∈L→a∈U
 few:L.length≤100
 sm:rules.length≤1048576
section
variable {rules:List Ru} {rn:List ByteArray} {p:ByteArray} {ts:List Tm} {am:Am} {L:List Ad}
theorem LawC.bf (h:LawC rules rn p ts am L):∀a,a∈L→bfs a.2:=fun a ha=>by
 obtain ⟨U,hu,h1⟩:=h.all
 exact hu.bf a (h1 a ha)
theorem LawC.sz (h:LawC rules rn p ts am L):∀a:Ad,a∈L→a.1.size<1000000∧a.2.size<1000000:=fun a ha=>by
 obtain ⟨U,hu,h1⟩:=h.all
 obtain ⟨_,h2,h3⟩:=hu.mem a (h1 a ha)
 exact ⟨by omega,by omega⟩
theorem meetL_cases (L:List Ad) (a:Ad):(a∈L∧meetL L a=L)∨(a∉L∧meetL L a=L++[a]):=by
 unfold meetL
 by_cases h:a∈L
 ·exact .inl ⟨h,if_pos h⟩
 ·exact .inr ⟨h,if_neg h⟩
theorem Steps.pre {Lc L1:List Ad} {ks:List ByteArray} {rest body:List Li} (h:Steps rn Lc ks rest L1 body):Lc<+:L1:=by
 induction h with
 |nil L ks=>exact List.prefix_refl L
 |skip i x hx hn h ih=>exact ih
 |ask i x hx hk hp h ih=>exact (meetL_pre _ _).trans ih
theorem Steps.blen {Lc L1:List Ad} {ks:List ByteArray} {rest body:List Li} (h:Steps rn Lc ks rest L1 body):body.length=rest.length:=by
 induction h with
 |nil L ks=>rfl
 |skip i x hx hn h ih=>
  rw [List.length_cons,ih,List.length_eraseIdx_of_lt (List.getElem?_eq_some_iff.1 hx).1]
  have:=(List.getElem?_eq_some_iff.1 hx).1
  omega
 |ask i x hx hk hp h ih=>
  rw [List.length_cons,ih,List.length_eraseIdx_of_lt (List.getElem?_eq_some_iff.1 hx).1]
  have:=(List.getElem?_eq_some_iff.1 hx).1
  omega
theorem Wrs.pre {a:Ad} {rs out out':List Ru} {Lc L1:List Ad} (h:Wrs rn a rs Lc out L1 out'):Lc<+:L1∧out<+:out':=by
 induction h with
 |nil L out=>exact ⟨List.prefix_refl L,List.prefix_refl out⟩
 |cons h1 h2 h3 ih=>exact ⟨h2.pre.trans ih.1,(List.prefix_append _ _).trans ih.2⟩
theorem Ads.pre {i:Nat} {Lc L1:List Ad} {out out':List Ru} (h:Ads rules rn i Lc out L1 out'):Lc<+:L1∧out<+:out':=by
 induction h with
 |stop L out=>exact ⟨List.prefix_refl L,List.prefix_refl out⟩
 |go h1 h2 h3 ih=>exact ⟨h2.pre.1.trans ih.1,(h2.pre.2.trans (List.prefix_append _ _)).trans ih.2⟩
end
end
end Go.Ped
