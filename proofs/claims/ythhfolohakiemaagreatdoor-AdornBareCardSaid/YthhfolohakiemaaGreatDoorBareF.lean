/- The function AdornBare answers true for every input, so its card holds. -/
import Derived.Test.YthhfolohakiemaaGreatDoorCards
import Derived.Test.YthhfolohakiemaaGreatDoorTie
import Derived.Test.YthhfolohakiemaaGreatDoorBareE
set_option linter.unusedVariables false
set_option linter.unnecessarySimpa false
set_option linter.unusedSimpArgs false
namespace Go.Ped
open Go.RowKit Go.Proofs
section
variable (L:List Ad) (a:Ad) (p:ByteArray) (hd:List Ar) (bd:List Li) (ks:List ByteArray) (i:Nat) (x:Li)
def kU:List ByteArray→AV
 |[]=> .seq [] true
 |x::r=> .row 143 0 ((x::r).map AV.str).length
def hit (s:ByteArray) (i:Nat) (y:Ar):Prop:=bat s i∧y.t.v≠⟨#[]⟩
theorem t26n (L:List Ad) (a:Ad) (p:ByteArray) (hd:List Ar) (bd:List Li) (i:Nat) (hi:i<hd.length) (hsm:hd.length≤24) (hpl:a.2.size=hd.length):En 89 (loopOf Tryz.f26 0) ⟨[(2,.seq (L.map adA) false),(3,.elt 3 0 0),(4,.elt 4 0 0),(7,.nils),(8,.int .i64 (i:Int))],[(3,.var [.str p,.seq (hd.map Ar.av) false,.seq (bd.map Li.av) false]),(4,.var [.str a.1,.str a.2])]⟩ (fun e t=>(e= .normal∧(∃y,hd[i]? =some y∧¬hit a.2 i y)∧t=⟨[(2,.seq (L.map adA) false),(3,.elt 3 0 0),(4,.elt 4 0 0),(7,.nils),(8,.int .i64 ((i+1:Nat):Int))],[(3,.var [.str p,.seq (hd.map Ar.av) false,.seq (bd.map Li.av) false]),(4,.var [.str a.1,.str a.2])]⟩)∨(e= .normal∧∃y,hd[i]? =some y∧hit a.2 i y∧t=⟨[(2,.seq (L.map adA) false),(3,.elt 3 0 0),(4,.elt 4 0 0),(7,.row 143 0 1),(8,.int .i64 ((i+1:Nat):Int))],[(3,.var [.str p,.seq (hd.map Ar.av) false,.seq (bd.map Li.av) false]),(4,.var [.str a.1,.str a.2]),(143,.row 1 [.str y.t.v])]⟩)):=by
 obtain ⟨x0,hx0⟩:=byte_of (s:=a.2) (n:=(↑i:Int)) (by omega) (by omega)
 rcases bft (decide ((↑(UInt8.toNat x0):Int)=98)) with h1|h1
 ·obtain ⟨x2,hm2,hx2⟩:=elt_of Ar.av (l:=hd) (n:=(↑i:Int)) (by omega) (by omega)
  rcases bft (decide ((Ar.t x2).1=ByteArray.mk #[])) with h3|h3
  ·exact ⟨Out.normal,St.mk [(2,AV.seq (List.map adA L) false),(3,AV.elt 3 0 0),(4,AV.elt 4 0 0),(7,AV.nils),(8,AV.int .i64 ((↑i:Int)+1))] [(3,Ob.var [AV.str p,AV.seq (List.map Ar.av hd) false,AV.seq (List.map Li.av bd) false]),(4,Ob.var [AV.str a.1,AV.str a.2])],by first|exact .inl ⟨rfl,⟨x0,hm0,by have hb:=bat_of hx1;unfold hit;simp_all⟩,rfl⟩|exact .inr ⟨rfl,x0,hm0,by have hb:=bat_of hx1;unfold hit;simp_all,rfl⟩|exact .inl ⟨rfl,⟨x1,hm1,by have hb:=bat_of hx0;unfold hit;simp_all⟩,rfl⟩|exact .inr ⟨rfl,x1,hm1,by have hb:=bat_of hx0;unfold hit;simp_all,rfl⟩|exact .inl ⟨rfl,⟨x2,hm2,by have hb:=bat_of hx0;unfold hit;simp_all⟩,rfl⟩|exact .inr ⟨rfl,x2,hm2,by have hb:=bat_of hx0;unfold hit;simp_all,rfl⟩|exact .inl ⟨rfl,⟨hd[i],List.getElem?_eq_getElem hi,by have hb:=bat_of hx0;unfold hit;simp_all⟩,rfl⟩,gA 0 [.is true,.is false,.elt (.int .u8 (↑(UInt8.toNat x0):Int)),.is true,.elt (.agg [.int .i8 x2.1,.str (Ar.t x2).1,.int .i8 (Ar.t x2).2,.int .i64 (Ar.t x2).3,.str (Ar.t x2).4]),.is false] [2,3,4,7,8] [K1 3,K1 4] (by kernel_rfl) (aC9 (d1 Ar.av hd i (by omega)) (show decide ((↑(ByteArray.size (Prod.snd a)):Int)≤(i:Int))=false from decide_eq_false (by omega)) hx0 h1 hx2 (nF h3) (w1 i (by omega)) rT rT)⟩
  ·exact ⟨Out.normal,St.mk [(2,AV.seq (List.map adA L) false),(3,AV.elt 3 0 0),(4,AV.elt 4 0 0),(7,AV.row 143 0 (0+List.length [AV.str (Ar.t x2).1])),(8,AV.int .i64 ((↑i:Int)+1))] [(3,Ob.var [AV.str p,AV.seq (List.map Ar.av hd) false,AV.seq (List.map Li.av bd) false]),(4,Ob.var [AV.str a.1,AV.str a.2]),(143,Ob.row 1 [AV.str (Ar.t x2).1])],by first|exact .inl ⟨rfl,⟨x0,hm0,by have hb:=bat_of hx1;unfold hit;simp_all⟩,rfl⟩|exact .inr ⟨rfl,x0,hm0,by have hb:=bat_of hx1;unfold hit;simp_all,rfl⟩|exact .inl ⟨rfl,⟨x1,hm1,by have hb:=bat_of hx0;unfold hit;simp_all⟩,rfl⟩|exact .inr ⟨rfl,x1,hm1,by have hb:=bat_of hx0;unfold hit;simp_all,rfl⟩|exact .inl ⟨rfl,⟨x2,hm2,by have hb:=bat_of hx0;unfold hit;simp_all⟩,rfl⟩|exact .inr ⟨rfl,x2,hm2,by have hb:=bat_of hx0;unfold hit;simp_all,rfl⟩|exact .inl ⟨rfl,⟨hd[i],List.getElem?_eq_getElem hi,by have hb:=bat_of hx0;unfold hit;simp_all⟩,rfl⟩,gA 0 [.is true,.is false,.elt (.int .u8 (↑(UInt8.toNat x0):Int)),.is true,.elt (.agg [.int .i8 x2.1,.str (Ar.t x2).1,.int .i8 (Ar.t x2).2,.int .i64 (Ar.t x2).3,.str (Ar.t x2).4]),.is true,.elt (.agg [.int .i8 x2.1,.str (Ar.t x2).1,.int .i8 (Ar.t x2).2,.int .i64 (Ar.t x2).3,.str (Ar.t x2).4]),.is true] [2,3,4,7,8] [K1 3,K1 4,(48,.keep 143 true)] (by kernel_rfl) (aC12 (d1 Ar.av hd i (by omega)) (show decide ((↑(ByteArray.size (Prod.snd a)):Int)≤(i:Int))=false from decide_eq_false (by omega)) hx0 h1 hx2 (nT h3) hx2 (show 1≤List.length [AV.str (Ar.t x2).1]∧[AV.str (Ar.t x2).1]≠[]∧(∀(e:AV),e∈[AV.str (Ar.t x2).1]→okE 1 e)∧(∀(e:AV),e∈[]→okE 1 e)∧(↑(0+List.length [AV.str (Ar.t x2).1]):Int)*16≤140737488355328∧0+List.length [AV.str (Ar.t x2).1]≤9223372036854775807 from by simp) (w1 i (by omega)) rT rT rT)⟩
 ·exact ⟨Out.normal,St.mk [(2,AV.seq (List.map adA L) false),(3,AV.elt 3 0 0),(4,AV.elt 4 0 0),(7,AV.nils),(8,AV.int .i64 ((↑i:Int)+1))] [(3,Ob.var [AV.str p,AV.seq (List.map Ar.av hd) false,AV.seq (List.map Li.av bd) false]),(4,Ob.var [AV.str a.1,AV.str a.2])],by first|exact .inl ⟨rfl,⟨x0,hm0,by have hb:=bat_of hx1;unfold hit;simp_all⟩,rfl⟩|exact .inr ⟨rfl,x0,hm0,by have hb:=bat_of hx1;unfold hit;simp_all,rfl⟩|exact .inl ⟨rfl,⟨x1,hm1,by have hb:=bat_of hx0;unfold hit;simp_all⟩,rfl⟩|exact .inr ⟨rfl,x1,hm1,by have hb:=bat_of hx0;unfold hit;simp_all,rfl⟩|exact .inl ⟨rfl,⟨x2,hm2,by have hb:=bat_of hx0;unfold hit;simp_all⟩,rfl⟩|exact .inr ⟨rfl,x2,hm2,by have hb:=bat_of hx0;unfold hit;simp_all,rfl⟩|exact .inl ⟨rfl,⟨hd[i],List.getElem?_eq_getElem hi,by have hb:=bat_of hx0;unfold hit;simp_all⟩,rfl⟩,gA 0 [.is true,.is false,.elt (.int .u8 (↑(UInt8.toNat x0):Int)),.is false] [2,3,4,7,8] [K1 3,K1 4] (by kernel_rfl) (aC7 (d1 Ar.av hd i (by omega)) (show decide ((↑(ByteArray.size (Prod.snd a)):Int)≤(i:Int))=false from decide_eq_false (by omega)) hx0 h1 (w1 i (by omega)) rT rT)⟩
abbrev Z300:Nat×AV:=(2,.seq (L.map adA) false)
abbrev Z301:Nat×AV:=(3,.elt 3 0 0)
abbrev Z302:Nat×AV:=(4,.elt 4 0 0)
abbrev Z303:Nat×Ob:=(3,.var [.str p,.seq (hd.map Ar.av) false,.seq (bd.map Li.av) false])
abbrev Z304:Nat×Ob:=(4,.var [.str a.1,.str a.2])
theorem e26n:En 89 (loopOf Tryz.f26 0) ⟨[Z300 L,Z301,Z302,(7,.nils),(8,.int .i64 ((hd.length:Nat):Int))],[Z303 p hd bd,Z304 a]⟩ (fun e t=>e= .exit 0∧t=⟨[Z300 L,Z301,(7,.nils)],[Z303 p hd bd]⟩):=by
 exact gE ⟨rfl,rfl⟩ 0 [.is false] [2,3,7] [K1 3] (aC2 (zs1dwb hd) rT)
theorem t26r (L:List Ad) (a:Ad) (p:ByteArray) (hd:List Ar) (bd:List Li) (ks:List ByteArray) (hks:ks.length<1000000) (i:Nat) (hi:i<hd.length) (hsm:hd.length≤24) (hpl:a.2.size=hd.length):En 89 (loopOf Tryz.f26 0) ⟨[(2,.seq (L.map adA) false),(3,.elt 3 0 0),(4,.elt 4 0 0),(7,.row 143 0 (ks.map AV.str).length),(8,.int .i64 (i:Int))],[(3,.var [.str p,.seq (hd.map Ar.av) false,.seq (bd.map Li.av) false]),(4,.var [.str a.1,.str a.2]),(143,.row 1 (ks.map .str))]⟩ (fun e t=>(e= .normal∧(∃y,hd[i]? =some y∧¬hit a.2 i y)∧t=⟨[(2,.seq (L.map adA) false),(3,.elt 3 0 0),(4,.elt 4 0 0),(7,.row 143 0 (ks.map AV.str).length),(8,.int .i64 ((i+1:Nat):Int))],[(3,.var [.str p,.seq (hd.map Ar.av) false,.seq (bd.map Li.av) false]),(4,.var [.str a.1,.str a.2]),(143,.row 1 (ks.map .str))]⟩)∨(e= .normal∧∃y,hd[i]? =some y∧hit a.2 i y∧t=⟨[(2,.seq (L.map adA) false),(3,.elt 3 0 0),(4,.elt 4 0 0),(7,.row 143 0 ((ks.map AV.str).length+1)),(8,.int .i64 ((i+1:Nat):Int))],[(3,.var [.str p,.seq (hd.map Ar.av) false,.seq (bd.map Li.av) false]),(4,.var [.str a.1,.str a.2]),(143,.row 1 (ks.map .str++[.str y.t.v]))]⟩)):=by
 obtain ⟨x0,hx0⟩:=byte_of (s:=a.2) (n:=(↑i:Int)) (by omega) (by omega)
 rcases bft (decide ((↑(UInt8.toNat x0):Int)=98)) with h1|h1
 ·obtain ⟨x2,hm2,hx2⟩:=elt_of Ar.av (l:=hd) (n:=(↑i:Int)) (by omega) (by omega)
  rcases bft (decide ((Ar.t x2).1=ByteArray.mk #[])) with h3|h3
  ·exact ⟨Out.normal,St.mk [(2,AV.seq (List.map adA L) false),(3,AV.elt 3 0 0),(4,AV.elt 4 0 0),(7,AV.row 143 0 (List.length (List.map AV.str ks))),(8,AV.int .i64 ((↑i:Int)+1))] [(3,Ob.var [AV.str p,AV.seq (List.map Ar.av hd) false,AV.seq (List.map Li.av bd) false]),(4,Ob.var [AV.str a.1,AV.str a.2]),(143,Ob.row 1 (List.map AV.str ks))],by first|exact .inl ⟨rfl,⟨x0,hm0,by have hb:=bat_of hx1;unfold hit;simp_all⟩,rfl⟩|exact .inr ⟨rfl,x0,hm0,by have hb:=bat_of hx1;unfold hit;simp_all,rfl⟩|exact .inl ⟨rfl,⟨x1,hm1,by have hb:=bat_of hx0;unfold hit;simp_all⟩,rfl⟩|exact .inr ⟨rfl,x1,hm1,by have hb:=bat_of hx0;unfold hit;simp_all,rfl⟩|exact .inl ⟨rfl,⟨x2,hm2,by have hb:=bat_of hx0;unfold hit;simp_all⟩,rfl⟩|exact .inr ⟨rfl,x2,hm2,by have hb:=bat_of hx0;unfold hit;simp_all,rfl⟩|exact .inl ⟨rfl,⟨hd[i],List.getElem?_eq_getElem hi,by have hb:=bat_of hx0;unfold hit;simp_all⟩,rfl⟩,gA 0 [.is true,.is false,.elt (.int .u8 (↑(UInt8.toNat x0):Int)),.is true,.elt (.agg [.int .i8 x2.1,.str (Ar.t x2).1,.int .i8 (Ar.t x2).2,.int .i64 (Ar.t x2).3,.str (Ar.t x2).4]),.is false] [2,3,4,7,8] [K1 3,K1 4,K1 143] (by kernel_rfl) (aC10 (d1 Ar.av hd i (by omega)) (show decide ((↑(ByteArray.size (Prod.snd a)):Int)≤(i:Int))=false from decide_eq_false (by omega)) hx0 h1 hx2 (nF h3) (w1 i (by omega)) rT rT (show noIdsL (ks.map AV.str)=true from by simp))⟩
  ·exact ⟨Out.normal,St.mk [(2,AV.seq (List.map adA L) false),(3,AV.elt 3 0 0),(4,AV.elt 4 0 0),(7,AV.row 143 0 (List.length (List.map AV.str ks)+List.length [AV.str (Ar.t x2).1])),(8,AV.int .i64 ((↑i:Int)+1))] [(3,Ob.var [AV.str p,AV.seq (List.map Ar.av hd) false,AV.seq (List.map Li.av bd) false]),(4,Ob.var [AV.str a.1,AV.str a.2]),(143,Ob.row 1 (List.map AV.str ks++[AV.str (Ar.t x2).1]))],by first|exact .inl ⟨rfl,⟨x0,hm0,by have hb:=bat_of hx1;unfold hit;simp_all⟩,rfl⟩|exact .inr ⟨rfl,x0,hm0,by have hb:=bat_of hx1;unfold hit;simp_all,rfl⟩|exact .inl ⟨rfl,⟨x1,hm1,by have hb:=bat_of hx0;unfold hit;simp_all⟩,rfl⟩|exact .inr ⟨rfl,x1,hm1,by have hb:=bat_of hx0;unfold hit;simp_all,rfl⟩|exact .inl ⟨rfl,⟨x2,hm2,by have hb:=bat_of hx0;unfold hit;simp_all⟩,rfl⟩|exact .inr ⟨rfl,x2,hm2,by have hb:=bat_of hx0;unfold hit;simp_all,rfl⟩|exact .inl ⟨rfl,⟨hd[i],List.getElem?_eq_getElem hi,by have hb:=bat_of hx0;unfold hit;simp_all⟩,rfl⟩,gA 0 [.is true,.is false,.elt (.int .u8 (↑(UInt8.toNat x0):Int)),.is true,.elt (.agg [.int .i8 x2.1,.str (Ar.t x2).1,.int .i8 (Ar.t x2).2,.int .i64 (Ar.t x2).3,.str (Ar.t x2).4]),.is true,.elt (.agg [.int .i8 x2.1,.str (Ar.t x2).1,.int .i8 (Ar.t x2).2,.int .i64 (Ar.t x2).3,.str (Ar.t x2).4]),.is true] [2,3,4,7,8] [K1 3,K1 4,(48,.keep 143 true)] (by kernel_rfl) (aC12 (d1 Ar.av hd i (by omega)) (show decide ((↑(ByteArray.size (Prod.snd a)):Int)≤(i:Int))=false from decide_eq_false (by omega)) hx0 h1 hx2 (nT h3) hx2 (show (1:Nat)≤List.length [AV.str (Ar.t x2).1]∧(0:Nat)=(0:Nat)∧List.length (ks.map AV.str)=List.length (ks.map AV.str)∧(∀(e:AV),e∈[AV.str (Ar.t x2).1]→okE (1:Nat) e)∧(∀(e:AV),e∈List.map AV.str ks→okE (1:Nat) e)∧(↑(List.length (ks.map AV.str)+List.length [AV.str (Ar.t x2).1]):Int)*(16:Int)≤(140737488355328:Int)∧List.length (ks.map AV.str)+List.length [AV.str (Ar.t x2).1]≤(9223372036854775807:Nat) from by simp;omega) (w1 i (by omega)) rT rT (show noIdsL (List.map AV.str ks++[AV.str (Ar.t x2).1])=true from by simp))⟩
 ·exact ⟨Out.normal,St.mk [(2,AV.seq (List.map adA L) false),(3,AV.elt 3 0 0),(4,AV.elt 4 0 0),(7,AV.row 143 0 (List.length (List.map AV.str ks))),(8,AV.int .i64 ((↑i:Int)+1))] [(3,Ob.var [AV.str p,AV.seq (List.map Ar.av hd) false,AV.seq (List.map Li.av bd) false]),(4,Ob.var [AV.str a.1,AV.str a.2]),(143,Ob.row 1 (List.map AV.str ks))],by first|exact .inl ⟨rfl,⟨x0,hm0,by have hb:=bat_of hx1;unfold hit;simp_all⟩,rfl⟩|exact .inr ⟨rfl,x0,hm0,by have hb:=bat_of hx1;unfold hit;simp_all,rfl⟩|exact .inl ⟨rfl,⟨x1,hm1,by have hb:=bat_of hx0;unfold hit;simp_all⟩,rfl⟩|exact .inr ⟨rfl,x1,hm1,by have hb:=bat_of hx0;unfold hit;simp_all,rfl⟩|exact .inl ⟨rfl,⟨x2,hm2,by have hb:=bat_of hx0;unfold hit;simp_all⟩,rfl⟩|exact .inr ⟨rfl,x2,hm2,by have hb:=bat_of hx0;unfold hit;simp_all,rfl⟩|exact .inl ⟨rfl,⟨hd[i],List.getElem?_eq_getElem hi,by have hb:=bat_of hx0;unfold hit;simp_all⟩,rfl⟩,gA 0 [.is true,.is false,.elt (.int .u8 (↑(UInt8.toNat x0):Int)),.is false] [2,3,4,7,8] [K1 3,K1 4,K1 143] (by kernel_rfl) (aC8 (d1 Ar.av hd i (by omega)) (show decide ((↑(ByteArray.size (Prod.snd a)):Int)≤(i:Int))=false from decide_eq_false (by omega)) hx0 h1 (w1 i (by omega)) rT rT (show noIdsL (ks.map AV.str)=true from by simp))⟩
abbrev Z305:Nat×Ob:=(143,.row 1 (ks.map AV.str))
abbrev Z309:St:=⟨[Z300 L,Z301,(7,.row 143 0 (ks.map AV.str).length)],[Z303 p hd bd,Z305 ks]⟩
theorem e26r:En 89 (loopOf Tryz.f26 0) ⟨[Z300 L,Z301,Z302,(7,.row 143 0 (ks.map AV.str).length),(8,.int .i64 ((hd.length:Nat):Int))],[Z303 p hd bd,Z304 a,Z305 ks]⟩ (fun e t=>e= .exit 0∧t=(Z309 L p hd bd ks)):=by
 exact gE ⟨rfl,rfl⟩ 0 [.is false] [2,3,7] [K1 3,K1 143] (aC3 (zs1dwb hd) rT (zs2m9r ks))
abbrev Z306:Nat×AV:=(7,.seq [] true)
abbrev Z30a:St:=⟨[Z300 L,Z301,Z302,(7,.nils),(8,.int .i64 0)],[Z303 p hd bd,Z304 a]⟩
theorem l26_0 (hsm:hd.length≤24) (hpl:a.2.size=hd.length):∃ks:List ByteArray,Lo 89 (loopOf Tryz.f26 0) (Z30a L a p hd bd) (.exit 0) ⟨[Z300 L,Z301,(7,kU ks)],Z303 p hd bd::kP ks⟩∧ks.length≤hd.length∧headK a.2 hd ks:=by
 have T:∀(i:Nat) (ks:List ByteArray),i<hd.length→(ks.length≤i∧(∀v,v∈ks↔∃(j:Nat) (y:Ar),j<i∧hd[j]? =some y∧bat a.2 j∧y.t.v=v∧v≠⟨#[]⟩))→En 89 (loopOf Tryz.f26 0) ⟨[Z300 L,Z301,Z302,(7,kV ks),(8,.int .i64 (i:Int))],Z303 p hd bd::Z304 a::kP ks⟩ (fun e t=>e= .normal∧∃ks':List ByteArray,(ks'.length≤i+1∧(∀v,v∈ks'↔∃(j:Nat) (y:Ar),j<i+1∧hd[j]? =some y∧bat a.2 j∧y.t.v=v∧v≠⟨#[]⟩))∧t=⟨[Z300 L,Z301,Z302,(7,kV ks'),(8,.int .i64 ((i+1:Nat):Int))],Z303 p hd bd::Z304 a::kP ks'⟩):=by
  intro i ks hi ⟨hk,hv⟩
  have same:∀y,hd[i]? =some y→¬hit a.2 i y→∀v,v∈ks↔∃(j:Nat) (y:Ar),j<i+1∧hd[j]? =some y∧bat a.2 j∧y.t.v=v∧v≠⟨#[]⟩:=by
   intro y hy hn v
   rw [hv]
   constructor
   ·rintro ⟨j,z,h1,h2⟩;exact ⟨j,z,by omega,h2⟩
   ·rintro ⟨j,z,h1,h2,h3,h4,h5⟩
    by_cases e:j=i
    ·subst e
     rw [hy] at h2;injection h2 with h2;subst h2
     exact absurd ⟨h3,by rw [h4];exact h5⟩ hn
    ·exact ⟨j,z,by omega,h2,h3,h4,h5⟩
  have more:∀y,hd[i]? =some y→hit a.2 i y→∀v,v∈ks++[y.t.v]↔∃(j:Nat) (y:Ar),j<i+1∧hd[j]? =some y∧bat a.2 j∧y.t.v=v∧v≠⟨#[]⟩:=by
   intro y hy ⟨n1,n2⟩ v
   rw [List.mem_append,List.mem_singleton,hv]
   constructor
   ·rintro (⟨j,z,h1,h2⟩|h1)
    ·exact ⟨j,z,by omega,h2⟩
    ·exact ⟨i,y,by omega,hy,n1,h1.symm,by rw [h1];exact n2⟩
   ·rintro ⟨j,z,h1,h2,h3,h4,h5⟩
    by_cases e:j=i
    ·subst e
     rw [hy] at h2;injection h2 with h2;subst h2
     exact .inr h4.symm
    ·exact .inl ⟨j,z,by omega,h2,h3,h4,h5⟩
  cases ks with
  |nil=>
   obtain ⟨e,t,⟨rfl,⟨y,hy,hn⟩,rfl⟩|⟨rfl,y,hy,hn,rfl⟩,h⟩:=t26n L a p hd bd i hi hsm hpl
   ·exact ⟨_,_,⟨rfl,[],⟨by simp,same y hy hn⟩,rfl⟩,h⟩
   ·exact ⟨_,_,⟨rfl,[y.t.v],⟨by simp,more y hy hn⟩,rfl⟩,h⟩
  |cons x r=>
   obtain ⟨e,t,⟨rfl,⟨y,hy,hn⟩,rfl⟩|⟨rfl,y,hy,hn,rfl⟩,h⟩:=t26r L a p hd bd (x::r) (by omega) i hi hsm hpl
   ·exact ⟨_,_,⟨rfl,x::r,⟨by omega,same y hy hn⟩,rfl⟩,h⟩
   ·refine ⟨_,_,⟨rfl,(x::r)++[y.t.v],⟨by rw [List.length_append];simp only [List.length_singleton];omega,more y hy hn⟩,?_⟩,h⟩
    rw [show kV ((x::r)++[y.t.v])= .row 143 0 (((x::r).map AV.str).length+1) from by simp [kV],show kP ((x::r)++[y.t.v])=[(143,.row 1 ((x::r).map AV.str++[.str y.t.v]))] from by simp [kP]]
 obtain ⟨ks,⟨h1,h2⟩,h⟩:=inv_loop0 (P:=Tryz.prog) (n:=89) (c:=loopOf Tryz.f26 0) (N:=hd.length) (k:=0) (γ:=List ByteArray) (fun i ks=>⟨[Z300 L,Z301,Z302,(7,kV ks),(8,.int .i64 (i:Int))],Z303 p hd bd::Z304 a::kP ks⟩) (fun ks=>⟨[Z300 L,Z301,(7,kU ks)],Z303 p hd bd::kP ks⟩)
  (fun i ks=>ks.length≤i∧(∀v,v∈ks↔∃(j:Nat) (y:Ar),j<i∧hd[j]? =some y∧bat a.2 j∧y.t.v=v∧v≠⟨#[]⟩)) T (fun ks hg=>by
   cases ks with
   |nil=>
    obtain ⟨e,t,⟨rfl,rfl⟩,h⟩:=e26n L a p hd bd
    have h2:=h.post (le_nilC (n:=89) (st:=⟨[Z300 L,Z301,(7,.nils)],[Z303 p hd bd]⟩) 7 rfl)
    exact ⟨_,_,⟨rfl,rfl⟩,h2.keepR [2,3,7] [K1 3] (st':=⟨[Z300 L,Z301,Z306],[Z303 p hd bd]⟩) (cs:=[true=true]) rfl ⟨rfl,trivial⟩⟩
   |cons x r=>exact e26r L a p hd bd (x::r)) [] ⟨by simp,fun v=>⟨fun h=>by simp at h,fun ⟨j,_,h,_⟩=>absurd h (Nat.not_lt_zero _)⟩⟩
 refine ⟨ks,h,h1,fun v=>(h2 v).trans ⟨fun ⟨j,y,_,h⟩=>⟨j,y,h⟩,fun ⟨j,y,h⟩=>⟨j,y,(List.getElem?_eq_some_iff.1 h.1).1,h⟩⟩⟩
theorem u26nai (a:Ad) (p:ByteArray) (hd:List Ar) (bd:List Li) (i:Nat) (x:Li) (hi:i<bd.length) (hsm:bd.length≤1000) (hx:0≤(i:Int)∧(bd.map Li.av)[Int.toNat (i:Int)]? =some x.av) (pl:Int) (k22:Sp 22 [.seq (L.map adA) false,.str x.p] [] (.int .i64 pl) []) (h1:decide (x.k=1)=false) (k52:Sp 52 [x.av] [] (.seq ((varsOf x.terms).map AV.str) false) []) (hv:(varsOf x.terms).map AV.str=[]):EN 89 (loopOf Tryz.f26 1) ⟨[(2,.seq (L.map adA) false),(3,.elt 3 0 0),(7,.seq [] true),(9,.int .i64 (i:Int))],[(3,.var [.str p,.seq (hd.map Ar.av) false,.seq (bd.map Li.av) false])]⟩ ⟨[(2,.seq (L.map adA) false),(3,.elt 3 0 0),(7,.seq [] true),(9,.int .i64 ((i+1:Nat):Int))],[(3,.var [.str p,.seq (hd.map Ar.av) false,.seq (bd.map Li.av) false])]⟩:=by
 exact gE ⟨rfl,rfl⟩ 0 [.is true,.elt (Li.av x),.call (.int .i64 pl) [] [],.is false,.call (.seq (List.map AV.str (varsOf (Li.terms x))) false) [] [],.is false] [2,3,7,9] [K1 3] (aC8 (d1 Li.av bd i (by omega)) hx k22 h1 k52 (show True∧List.map AV.str (varsOf (Li.terms x))=[] from by simp at*;omega) (w1 i (by omega)) rT)
theorem u26naj (a:Ad) (p:ByteArray) (hd:List Ar) (bd:List Li) (i:Nat) (x:Li) (hi:i<bd.length) (hsm:bd.length≤1000) (hx:0≤(i:Int)∧(bd.map Li.av)[Int.toNat (i:Int)]? =some x.av) (pl:Int) (k22:Sp 22 [.seq (L.map adA) false,.str x.p] [] (.int .i64 pl) []) (h1:decide (x.k=1)=false) (k52:Sp 52 [x.av] [] (.seq ((varsOf x.terms).map AV.str) false) []) (hc:True∧(varsOf x.terms).map AV.str≠[]∧(∀e,e∈(varsOf x.terms).map AV.str→okE 1 e)∧(∀e,e∈([]:List AV)→okE 1 e)∧((List.length ([]:List AV)+((varsOf x.terms).map AV.str).length:Nat):Int)*16≤140737488355328∧List.length ([]:List AV)+((varsOf x.terms).map AV.str).length≤9223372036854775807):EN 89 (loopOf Tryz.f26 1) ⟨[(2,.seq (L.map adA) false),(3,.elt 3 0 0),(7,.seq [] true),(9,.int .i64 (i:Int))],[(3,.var [.str p,.seq (hd.map Ar.av) false,.seq (bd.map Li.av) false])]⟩ ⟨[(2,.seq (L.map adA) false),(3,.elt 3 0 0),(7,.row 143 0 (List.length ([]:List AV)+((varsOf x.terms).map AV.str).length)),(9,.int .i64 ((i+1:Nat):Int))],[(3,.var [.str p,.seq (hd.map Ar.av) false,.seq (bd.map Li.av) false]),(143,.row 1 ([]++(varsOf x.terms).map AV.str))]⟩:=by
 exact gE ⟨rfl,rfl⟩ 0 [.is true,.elt (Li.av x),.call (.int .i64 pl) [] [],.is false,.call (.seq (List.map AV.str (varsOf (Li.terms x))) false) [] [],.is true] [2,3,7,9] [K1 3,(88,.keep 143 true)] (aC9 (d1 Li.av bd i (by omega)) hx k22 h1 k52 hc (w1 i (by omega)) rT (zsof3d x))
theorem u26nbi (a:Ad) (p:ByteArray) (hd:List Ar) (bd:List Li) (i:Nat) (x:Li) (hi:i<bd.length) (hsm:bd.length≤1000) (hx:0≤(i:Int)∧(bd.map Li.av)[Int.toNat (i:Int)]? =some x.av) (k22:Sp 22 [.seq (L.map adA) false,.str x.p] [] (.int .i64 (-1)) []) (h1:decide (x.k=1)=true) (k52:Sp 52 [x.av] [] (.seq ((varsOf x.terms).map AV.str) false) []) (hv:(varsOf x.terms).map AV.str=[]):EN 89 (loopOf Tryz.f26 1) ⟨[(2,.seq (L.map adA) false),(3,.elt 3 0 0),(7,.seq [] true),(9,.int .i64 (i:Int))],[(3,.var [.str p,.seq (hd.map Ar.av) false,.seq (bd.map Li.av) false])]⟩ ⟨[(2,.seq (L.map adA) false),(3,.elt 3 0 0),(7,.seq [] true),(9,.int .i64 ((i+1:Nat):Int))],[(3,.var [.str p,.seq (hd.map Ar.av) false,.seq (bd.map Li.av) false])]⟩:=by
 exact gE ⟨rfl,rfl⟩ 0 [.is true,.elt (Li.av x),.call (.int .i64 (-1)) [] [],.is true,.is false,.call (.seq (List.map AV.str (varsOf (Li.terms x))) false) [] [],.is false] [2,3,7,9] [K1 3] (aC9 (d1 Li.av bd i (by omega)) hx k22 h1 rF k52 (show True∧List.map AV.str (varsOf (Li.terms x))=[] from by simp at*;omega) (w1 i (by omega)) rT)
theorem u26nbj (a:Ad) (p:ByteArray) (hd:List Ar) (bd:List Li) (i:Nat) (x:Li) (hi:i<bd.length) (hsm:bd.length≤1000) (hx:0≤(i:Int)∧(bd.map Li.av)[Int.toNat (i:Int)]? =some x.av) (k22:Sp 22 [.seq (L.map adA) false,.str x.p] [] (.int .i64 (-1)) []) (h1:decide (x.k=1)=true) (k52:Sp 52 [x.av] [] (.seq ((varsOf x.terms).map AV.str) false) []) (hc:True∧(varsOf x.terms).map AV.str≠[]∧(∀e,e∈(varsOf x.terms).map AV.str→okE 1 e)∧(∀e,e∈([]:List AV)→okE 1 e)∧((List.length ([]:List AV)+((varsOf x.terms).map AV.str).length:Nat):Int)*16≤140737488355328∧List.length ([]:List AV)+((varsOf x.terms).map AV.str).length≤9223372036854775807):EN 89 (loopOf Tryz.f26 1) ⟨[(2,.seq (L.map adA) false),(3,.elt 3 0 0),(7,.seq [] true),(9,.int .i64 (i:Int))],[(3,.var [.str p,.seq (hd.map Ar.av) false,.seq (bd.map Li.av) false])]⟩ ⟨[(2,.seq (L.map adA) false),(3,.elt 3 0 0),(7,.row 143 0 (List.length ([]:List AV)+((varsOf x.terms).map AV.str).length)),(9,.int .i64 ((i+1:Nat):Int))],[(3,.var [.str p,.seq (hd.map Ar.av) false,.seq (bd.map Li.av) false]),(143,.row 1 ([]++(varsOf x.terms).map AV.str))]⟩:=by
 exact gE ⟨rfl,rfl⟩ 0 [.is true,.elt (Li.av x),.call (.int .i64 (-1)) [] [],.is true,.is false,.call (.seq (List.map AV.str (varsOf (Li.terms x))) false) [] [],.is true] [2,3,7,9] [K1 3,(88,.keep 143 true)] (aC10 (d1 Li.av bd i (by omega)) hx k22 h1 rF k52 hc (w1 i (by omega)) rT (zsof3d x))
theorem u26ndi (a:Ad) (p:ByteArray) (hd:List Ar) (bd:List Li) (i:Nat) (x:Li) (hi:i<bd.length) (hsm:bd.length≤1000) (hx:0≤(i:Int)∧(bd.map Li.av)[Int.toNat (i:Int)]? =some x.av) (q:Nat) (b:Ad) (k22:Sp 22 [.seq (L.map adA) false,.str x.p] [] (.int .i64 (q:Int)) []) (h1:decide (x.k=1)=true) (h2:decide ((q:Int)≥0)=true) (hA:0≤(q:Int)∧(L.map adA)[Int.toNat (q:Int)]? =some (.agg [.str b.1,.str b.2])) (k10:Sp 10 [.agg [.str x.p,.seq (x.ts.map Tm.av) false],.seq [] true] [] (.str (patT x.ts [])) []) (h3:(!decide (b.2=patT x.ts []))=false) (k52:Sp 52 [x.av] [] (.seq ((varsOf x.terms).map AV.str) false) []) (hv:(varsOf x.terms).map AV.str=[]):EN 89 (loopOf Tryz.f26 1) ⟨[(2,.seq (L.map adA) false),(3,.elt 3 0 0),(7,.seq [] true),(9,.int .i64 (i:Int))],[(3,.var [.str p,.seq (hd.map Ar.av) false,.seq (bd.map Li.av) false])]⟩ ⟨[(2,.seq (L.map adA) false),(3,.elt 3 0 0),(7,.seq [] true),(9,.int .i64 ((i+1:Nat):Int))],[(3,.var [.str p,.seq (hd.map Ar.av) false,.seq (bd.map Li.av) false])]⟩:=by
 exact gE ⟨rfl,rfl⟩ 0 [.is true,.elt (Li.av x),.call (.int .i64 (q:Int)) [] [],.is true,.is true,.elt (.agg [.str (Prod.fst b),.str (Prod.snd b)]),.call (.str (patT (Li.ts x) [])) [] [],.is false,.call (.seq (List.map AV.str (varsOf (Li.terms x))) false) [] [],.is false] [2,3,7,9] [K1 3] (aC12 (d1 Li.av bd i (by omega)) hx k22 h1 rT hA k10 h3 k52 (show True∧List.map AV.str (varsOf (Li.terms x))=[] from by simp at*;omega) (w1 i (by omega)) rT)
theorem u26ndj (a:Ad) (p:ByteArray) (hd:List Ar) (bd:List Li) (i:Nat) (x:Li) (hi:i<bd.length) (hsm:bd.length≤1000) (hx:0≤(i:Int)∧(bd.map Li.av)[Int.toNat (i:Int)]? =some x.av) (q:Nat) (b:Ad) (k22:Sp 22 [.seq (L.map adA) false,.str x.p] [] (.int .i64 (q:Int)) []) (h1:decide (x.k=1)=true) (h2:decide ((q:Int)≥0)=true) (hA:0≤(q:Int)∧(L.map adA)[Int.toNat (q:Int)]? =some (.agg [.str b.1,.str b.2])) (k10:Sp 10 [.agg [.str x.p,.seq (x.ts.map Tm.av) false],.seq [] true] [] (.str (patT x.ts [])) []) (h3:(!decide (b.2=patT x.ts []))=false) (k52:Sp 52 [x.av] [] (.seq ((varsOf x.terms).map AV.str) false) []) (hc:True∧(varsOf x.terms).map AV.str≠[]∧(∀e,e∈(varsOf x.terms).map AV.str→okE 1 e)∧(∀e,e∈([]:List AV)→okE 1 e)∧((List.length ([]:List AV)+((varsOf x.terms).map AV.str).length:Nat):Int)*16≤140737488355328∧List.length ([]:List AV)+((varsOf x.terms).map AV.str).length≤9223372036854775807):EN 89 (loopOf Tryz.f26 1) ⟨[(2,.seq (L.map adA) false),(3,.elt 3 0 0),(7,.seq [] true),(9,.int .i64 (i:Int))],[(3,.var [.str p,.seq (hd.map Ar.av) false,.seq (bd.map Li.av) false])]⟩ ⟨[(2,.seq (L.map adA) false),(3,.elt 3 0 0),(7,.row 143 0 (List.length ([]:List AV)+((varsOf x.terms).map AV.str).length)),(9,.int .i64 ((i+1:Nat):Int))],[(3,.var [.str p,.seq (hd.map Ar.av) false,.seq (bd.map Li.av) false]),(143,.row 1 ([]++(varsOf x.terms).map AV.str))]⟩:=by
 exact gE ⟨rfl,rfl⟩ 0 [.is true,.elt (Li.av x),.call (.int .i64 (q:Int)) [] [],.is true,.is true,.elt (.agg [.str (Prod.fst b),.str (Prod.snd b)]),.call (.str (patT (Li.ts x) [])) [] [],.is false,.call (.seq (List.map AV.str (varsOf (Li.terms x))) false) [] [],.is true] [2,3,7,9] [K1 3,(88,.keep 143 true)] (aC13 (d1 Li.av bd i (by omega)) hx k22 h1 rT hA k10 h3 k52 hc (w1 i (by omega)) rT (zsof3d x))
theorem f26n (a:Ad) (p:ByteArray) (hd:List Ar) (bd:List Li):En 89 (loopOf Tryz.f26 1) ⟨[Z300 L,Z301,Z306,(9,.int .i64 ((bd.length:Nat):Int))],[Z303 p hd bd]⟩ (fun e t=>e= .exit 2∧t=⟨[],[]⟩):=by
 exact gE ⟨rfl,rfl⟩ 0 [.is false] [] [] (aC1 (zsvzxo bd))
theorem u26rai (a:Ad) (p:ByteArray) (hd:List Ar) (bd:List Li) (ks:List ByteArray) (i:Nat) (x:Li) (hi:i<bd.length) (hsm:bd.length≤1000) (hx:0≤(i:Int)∧(bd.map Li.av)[Int.toNat (i:Int)]? =some x.av) (pl:Int) (k22:Sp 22 [.seq (L.map adA) false,.str x.p] [] (.int .i64 pl) []) (h1:decide (x.k=1)=false) (k52:Sp 52 [x.av] [] (.seq ((varsOf x.terms).map AV.str) false) []) (hv:(varsOf x.terms).map AV.str=[]):EN 89 (loopOf Tryz.f26 1) ⟨[(2,.seq (L.map adA) false),(3,.elt 3 0 0),(7,.row 143 0 (ks.map AV.str).length),(9,.int .i64 (i:Int))],[(3,.var [.str p,.seq (hd.map Ar.av) false,.seq (bd.map Li.av) false]),(143,.row 1 (ks.map .str))]⟩ ⟨[(2,.seq (L.map adA) false),(3,.elt 3 0 0),(7,.row 143 0 (ks.map AV.str).length),(9,.int .i64 ((i+1:Nat):Int))],[(3,.var [.str p,.seq (hd.map Ar.av) false,.seq (bd.map Li.av) false]),(143,.row 1 (ks.map .str))]⟩:=by
 exact gE ⟨rfl,rfl⟩ 0 [.is true,.elt (Li.av x),.call (.int .i64 pl) [] [],.is false,.call (.seq (List.map AV.str (varsOf (Li.terms x))) false) [] [],.is false] [2,3,7,9] [K1 3,K1 143] (aC9 (d1 Li.av bd i (by omega)) hx k22 h1 k52 (show True∧List.map AV.str (varsOf (Li.terms x))=[] from by simp at*;omega) (w1 i (by omega)) rT (zs2m9r ks))
theorem u26raj (a:Ad) (p:ByteArray) (hd:List Ar) (bd:List Li) (ks:List ByteArray) (i:Nat) (x:Li) (hi:i<bd.length) (hsm:bd.length≤1000) (hx:0≤(i:Int)∧(bd.map Li.av)[Int.toNat (i:Int)]? =some x.av) (pl:Int) (k22:Sp 22 [.seq (L.map adA) false,.str x.p] [] (.int .i64 pl) []) (h1:decide (x.k=1)=false) (k52:Sp 52 [x.av] [] (.seq ((varsOf x.terms).map AV.str) false) []) (hc:True∧(0:Nat)=0∧(ks.map AV.str).length=(ks.map AV.str).length∧(∀e,e∈(varsOf x.terms).map AV.str→okE 1 e)∧(∀e,e∈ks.map AV.str→okE 1 e)∧(((ks.map AV.str).length+((varsOf x.terms).map AV.str).length:Nat):Int)*16≤140737488355328∧(ks.map AV.str).length+((varsOf x.terms).map AV.str).length≤9223372036854775807):EN 89 (loopOf Tryz.f26 1) ⟨[(2,.seq (L.map adA) false),(3,.elt 3 0 0),(7,.row 143 0 (ks.map AV.str).length),(9,.int .i64 (i:Int))],[(3,.var [.str p,.seq (hd.map Ar.av) false,.seq (bd.map Li.av) false]),(143,.row 1 (ks.map .str))]⟩ ⟨[(2,.seq (L.map adA) false),(3,.elt 3 0 0),(7,.row 143 0 ((ks.map AV.str).length+((varsOf x.terms).map AV.str).length)),(9,.int .i64 ((i+1:Nat):Int))],[(3,.var [.str p,.seq (hd.map Ar.av) false,.seq (bd.map Li.av) false]),(143,.row 1 (ks.map AV.str++(varsOf x.terms).map AV.str))]⟩:=by
 exact gE ⟨rfl,rfl⟩ 0 [.is true,.elt (Li.av x),.call (.int .i64 pl) [] [],.is false,.call (.seq (List.map AV.str (varsOf (Li.terms x))) false) [] [],.is true] [2,3,7,9] [K1 3,(88,.keep 143 true)] (aC9 (d1 Li.av bd i (by omega)) hx k22 h1 k52 hc (w1 i (by omega)) rT (zsm4au ks x))
theorem u26rbi (a:Ad) (p:ByteArray) (hd:List Ar) (bd:List Li) (ks:List ByteArray) (i:Nat) (x:Li) (hi:i<bd.length) (hsm:bd.length≤1000) (hx:0≤(i:Int)∧(bd.map Li.av)[Int.toNat (i:Int)]? =some x.av) (k22:Sp 22 [.seq (L.map adA) false,.str x.p] [] (.int .i64 (-1)) []) (h1:decide (x.k=1)=true) (k52:Sp 52 [x.av] [] (.seq ((varsOf x.terms).map AV.str) false) []) (hv:(varsOf x.terms).map AV.str=[]):EN 89 (loopOf Tryz.f26 1) ⟨[(2,.seq (L.map adA) false),(3,.elt 3 0 0),(7,.row 143 0 (ks.map AV.str).length),(9,.int .i64 (i:Int))],[(3,.var [.str p,.seq (hd.map Ar.av) false,.seq (bd.map Li.av) false]),(143,.row 1 (ks.map .str))]⟩ ⟨[(2,.seq (L.map adA) false),(3,.elt 3 0 0),(7,.row 143 0 (ks.map AV.str).length),(9,.int .i64 ((i+1:Nat):Int))],[(3,.var [.str p,.seq (hd.map Ar.av) false,.seq (bd.map Li.av) false]),(143,.row 1 (ks.map .str))]⟩:=by
 exact gE ⟨rfl,rfl⟩ 0 [.is true,.elt (Li.av x),.call (.int .i64 (-1)) [] [],.is true,.is false,.call (.seq (List.map AV.str (varsOf (Li.terms x))) false) [] [],.is false] [2,3,7,9] [K1 3,K1 143] (aC10 (d1 Li.av bd i (by omega)) hx k22 h1 rF k52 (show True∧List.map AV.str (varsOf (Li.terms x))=[] from by simp at*;omega) (w1 i (by omega)) rT (zs2m9r ks))
theorem u26rbj (a:Ad) (p:ByteArray) (hd:List Ar) (bd:List Li) (ks:List ByteArray) (i:Nat) (x:Li) (hi:i<bd.length) (hsm:bd.length≤1000) (hx:0≤(i:Int)∧(bd.map Li.av)[Int.toNat (i:Int)]? =some x.av) (k22:Sp 22 [.seq (L.map adA) false,.str x.p] [] (.int .i64 (-1)) []) (h1:decide (x.k=1)=true) (k52:Sp 52 [x.av] [] (.seq ((varsOf x.terms).map AV.str) false) []) (hc:True∧(0:Nat)=0∧(ks.map AV.str).length=(ks.map AV.str).length∧(∀e,e∈(varsOf x.terms).map AV.str→okE 1 e)∧(∀e,e∈ks.map AV.str→okE 1 e)∧(((ks.map AV.str).length+((varsOf x.terms).map AV.str).length:Nat):Int)*16≤140737488355328∧(ks.map AV.str).length+((varsOf x.terms).map AV.str).length≤9223372036854775807):EN 89 (loopOf Tryz.f26 1) ⟨[(2,.seq (L.map adA) false),(3,.elt 3 0 0),(7,.row 143 0 (ks.map AV.str).length),(9,.int .i64 (i:Int))],[(3,.var [.str p,.seq (hd.map Ar.av) false,.seq (bd.map Li.av) false]),(143,.row 1 (ks.map .str))]⟩ ⟨[(2,.seq (L.map adA) false),(3,.elt 3 0 0),(7,.row 143 0 ((ks.map AV.str).length+((varsOf x.terms).map AV.str).length)),(9,.int .i64 ((i+1:Nat):Int))],[(3,.var [.str p,.seq (hd.map Ar.av) false,.seq (bd.map Li.av) false]),(143,.row 1 (ks.map AV.str++(varsOf x.terms).map AV.str))]⟩:=by
 exact gE ⟨rfl,rfl⟩ 0 [.is true,.elt (Li.av x),.call (.int .i64 (-1)) [] [],.is true,.is false,.call (.seq (List.map AV.str (varsOf (Li.terms x))) false) [] [],.is true] [2,3,7,9] [K1 3,(88,.keep 143 true)] (aC10 (d1 Li.av bd i (by omega)) hx k22 h1 rF k52 hc (w1 i (by omega)) rT (zsm4au ks x))
theorem u26rdi (a:Ad) (p:ByteArray) (hd:List Ar) (bd:List Li) (ks:List ByteArray) (i:Nat) (x:Li) (hi:i<bd.length) (hsm:bd.length≤1000) (hx:0≤(i:Int)∧(bd.map Li.av)[Int.toNat (i:Int)]? =some x.av) (q:Nat) (b:Ad) (k22:Sp 22 [.seq (L.map adA) false,.str x.p] [] (.int .i64 (q:Int)) []) (h1:decide (x.k=1)=true) (h2:decide ((q:Int)≥0)=true) (hA:0≤(q:Int)∧(L.map adA)[Int.toNat (q:Int)]? =some (.agg [.str b.1,.str b.2])) (k10:Sp 10 [.agg [.str x.p,.seq (x.ts.map Tm.av) false],.row 143 0 (ks.map AV.str).length] [(143,.row 1 (ks.map .str))] (.str (patT x.ts ks)) []) (h3:(!decide (b.2=patT x.ts ks))=false) (k52:Sp 52 [x.av] [] (.seq ((varsOf x.terms).map AV.str) false) []) (hv:(varsOf x.terms).map AV.str=[]):EN 89 (loopOf Tryz.f26 1) ⟨[(2,.seq (L.map adA) false),(3,.elt 3 0 0),(7,.row 143 0 (ks.map AV.str).length),(9,.int .i64 (i:Int))],[(3,.var [.str p,.seq (hd.map Ar.av) false,.seq (bd.map Li.av) false]),(143,.row 1 (ks.map .str))]⟩ ⟨[(2,.seq (L.map adA) false),(3,.elt 3 0 0),(7,.row 143 0 (ks.map AV.str).length),(9,.int .i64 ((i+1:Nat):Int))],[(3,.var [.str p,.seq (hd.map Ar.av) false,.seq (bd.map Li.av) false]),(143,.row 1 (ks.map .str))]⟩:=by
 exact gE ⟨rfl,rfl⟩ 0 [.is true,.elt (Li.av x),.call (.int .i64 (q:Int)) [] [],.is true,.is true,.elt (.agg [.str (Prod.fst b),.str (Prod.snd b)]),.call (.str (patT (Li.ts x) ks)) [143] [],.is false,.call (.seq (List.map AV.str (varsOf (Li.terms x))) false) [] [],.is false] [2,3,7,9] [K1 3,K1 143] (aC13 (d1 Li.av bd i (by omega)) hx k22 h1 rT hA k10 h3 k52 (show True∧List.map AV.str (varsOf (Li.terms x))=[] from by simp at*;omega) (w1 i (by omega)) rT (zs2m9r ks))
theorem u26rdj (a:Ad) (p:ByteArray) (hd:List Ar) (bd:List Li) (ks:List ByteArray) (i:Nat) (x:Li) (hi:i<bd.length) (hsm:bd.length≤1000) (hx:0≤(i:Int)∧(bd.map Li.av)[Int.toNat (i:Int)]? =some x.av) (q:Nat) (b:Ad) (k22:Sp 22 [.seq (L.map adA) false,.str x.p] [] (.int .i64 (q:Int)) []) (h1:decide (x.k=1)=true) (h2:decide ((q:Int)≥0)=true) (hA:0≤(q:Int)∧(L.map adA)[Int.toNat (q:Int)]? =some (.agg [.str b.1,.str b.2])) (k10:Sp 10 [.agg [.str x.p,.seq (x.ts.map Tm.av) false],.row 143 0 (ks.map AV.str).length] [(143,.row 1 (ks.map .str))] (.str (patT x.ts ks)) []) (h3:(!decide (b.2=patT x.ts ks))=false) (k52:Sp 52 [x.av] [] (.seq ((varsOf x.terms).map AV.str) false) []) (hc:True∧(0:Nat)=0∧(ks.map AV.str).length=(ks.map AV.str).length∧(∀e,e∈(varsOf x.terms).map AV.str→okE 1 e)∧(∀e,e∈ks.map AV.str→okE 1 e)∧(((ks.map AV.str).length+((varsOf x.terms).map AV.str).length:Nat):Int)*16≤140737488355328∧(ks.map AV.str).length+((varsOf x.terms).map AV.str).length≤9223372036854775807):EN 89 (loopOf Tryz.f26 1) ⟨[(2,.seq (L.map adA) false),(3,.elt 3 0 0),(7,.row 143 0 (ks.map AV.str).length),(9,.int .i64 (i:Int))],[(3,.var [.str p,.seq (hd.map Ar.av) false,.seq (bd.map Li.av) false]),(143,.row 1 (ks.map .str))]⟩ ⟨[(2,.seq (L.map adA) false),(3,.elt 3 0 0),(7,.row 143 0 ((ks.map AV.str).length+((varsOf x.terms).map AV.str).length)),(9,.int .i64 ((i+1:Nat):Int))],[(3,.var [.str p,.seq (hd.map Ar.av) false,.seq (bd.map Li.av) false]),(143,.row 1 (ks.map AV.str++(varsOf x.terms).map AV.str))]⟩:=by
 exact gE ⟨rfl,rfl⟩ 0 [.is true,.elt (Li.av x),.call (.int .i64 (q:Int)) [] [],.is true,.is true,.elt (.agg [.str (Prod.fst b),.str (Prod.snd b)]),.call (.str (patT (Li.ts x) ks)) [143] [],.is false,.call (.seq (List.map AV.str (varsOf (Li.terms x))) false) [] [],.is true] [2,3,7,9] [K1 3,(88,.keep 143 true)] (aC13 (d1 Li.av bd i (by omega)) hx k22 h1 rT hA k10 h3 k52 hc (w1 i (by omega)) rT (zsm4au ks x))
theorem f26r (a:Ad) (p:ByteArray) (hd:List Ar) (bd:List Li) (ks:List ByteArray):En 89 (loopOf Tryz.f26 1) ⟨[Z300 L,Z301,(7,.row 143 0 (ks.map AV.str).length),(9,.int .i64 ((bd.length:Nat):Int))],[Z303 p hd bd,Z305 ks]⟩ (fun e t=>e= .exit 2∧t=⟨[],[]⟩):=by
 exact gE ⟨rfl,rfl⟩ 0 [.is false] [] [] (aC1 (zsvzxo bd))
theorem patT_congr {ts:List Tm} {ks ks':List ByteArray} (h:∀v,v∈ks↔v∈ks'):patT ts ks=patT ts ks':=by
 have:∀v,hasT ks v=hasT ks' v:=fun v=>by rw [Bool.eq_iff_iff,hasT_iff,hasT_iff];exact h v
 have e:pb ks=pb ks':=by funext t;simp only [pb,this]
 unfold patT
 rw [e]
def sit (L:List Ad) (ks:List ByteArray) (x:Li):Prop:=(∃pl:Int,Sp 22 [.seq (L.map adA) false,.str x.p] [] (.int .i64 pl) []∧x.k≠1)∨(Sp 22 [.seq (L.map adA) false,.str x.p] [] (.int .i64 (-1)) []∧x.k=1)∨
 ∃(q:Nat) (b:Ad),Sp 22 [.seq (L.map adA) false,.str x.p] [] (.int .i64 (q:Int)) []∧x.k=1∧L[q]? =some b∧b.2=patT x.ts ks
abbrev Z307:Nat×AV:=(9,.int .i64 ((i+1:Nat):Int))
theorem turn26 (a:Ad) (p:ByteArray) (hd:List Ar) (bd:List Li) (ks:List ByteArray) (i:Nat) (x:Li) (hsm:bd.length≤1000) (hx:bd[i]? =some x) (hT:x.terms.length<1000) (hks:ks.length<1000000) (hs:sit L ks x):
  Rz 89 (loopOf Tryz.f26 1) ⟨[Z300 L,Z301,(7,kU ks),(9,.int .i64 (i:Int))],Z303 p hd bd::kP ks⟩ .normal ⟨[Z300 L,Z301,(7,kU (ks++varsOf x.terms)),Z307 i],Z303 p hd bd::kP (ks++varsOf x.terms)⟩:=by
 have hi:=(List.getElem?_eq_some_iff.1 hx).1
 have gx:0≤(i:Int)∧(bd.map Li.av)[Int.toNat (i:Int)]? =some x.av:=⟨by omega,get_of Li.av hx⟩
 have s52:=k52 x (by omega)
 have hvl:(varsOf x.terms).length<1000:=Nat.lt_of_le_of_lt (varsOf_len _) hT
 have hts:x.ts.length<1000000000000:=by
  simp only [Li.terms,List.length_append] at hT;omega
 cases ks with
 |nil=>
  by_cases hv:varsOf x.terms=[]
  ·have hv':(varsOf x.terms).map AV.str=[]:=by rw [hv];rfl
   rw [hv]
   rcases hs with ⟨pl,s,hk⟩|⟨s,hk⟩|⟨q,b,s,hk,hq,hb⟩
   ·obtain ⟨e,t,⟨rfl,rfl⟩,h⟩:=u26nai L a p hd bd i x hi hsm gx pl s (decide_eq_false hk) s52 hv'
    exact h
   ·obtain ⟨e,t,⟨rfl,rfl⟩,h⟩:=u26nbi L a p hd bd i x hi hsm gx s (decide_eq_true hk) s52 hv'
    exact h
   ·obtain ⟨e,t,⟨rfl,rfl⟩,h⟩:=u26ndi L a p hd bd i x hi hsm gx q b s (decide_eq_true hk) (decide_eq_true (by omega)) ⟨by omega,get_of adA hq⟩ (k10c x.p x.ts hts) (by simp [hb]) s52 hv'
    exact h
  ·have hc:True∧(varsOf x.terms).map AV.str≠[]∧(∀e,e∈(varsOf x.terms).map AV.str→okE 1 e)∧(∀e,e∈([]:List AV)→okE 1 e)∧((List.length ([]:List AV)+((varsOf x.terms).map AV.str).length:Nat):Int)*16≤140737488355328∧List.length ([]:List AV)+((varsOf x.terms).map AV.str).length≤9223372036854775807:=
    ⟨trivial,by simpa using hv,okE_strs _,by simp,by simp only [List.length_map,List.length_nil];omega,by simp only [List.length_map,List.length_nil];omega⟩
   have fin:∀{s:St},Rz 89 (loopOf Tryz.f26 1) s .normal ⟨[Z300 L,Z301,(7,.row 143 0 (List.length ([]:List AV)+((varsOf x.terms).map AV.str).length)),Z307 i],[Z303 p hd bd,(143,.row 1 ([]++(varsOf x.terms).map AV.str))]⟩→Rz 89 (loopOf Tryz.f26 1) s .normal ⟨[Z300 L,Z301,(7,kU ([]++varsOf x.terms)),Z307 i],Z303 p hd bd::kP ([]++varsOf x.terms)⟩:=by
    intro s h
    rw [List.nil_append]
    cases hvv:varsOf x.terms with
    |nil=>exact absurd hvv hv
    |cons y r=>
     rw [hvv] at h
     simpa [kU,kP] using h
   rcases hs with ⟨pl,s,hk⟩|⟨s,hk⟩|⟨q,b,s,hk,hq,hb⟩
   ·obtain ⟨e,t,⟨rfl,rfl⟩,h⟩:=u26naj L a p hd bd i x hi hsm gx pl s (decide_eq_false hk) s52 hc
    exact fin h
   ·obtain ⟨e,t,⟨rfl,rfl⟩,h⟩:=u26nbj L a p hd bd i x hi hsm gx s (decide_eq_true hk) s52 hc
    exact fin h
   ·obtain ⟨e,t,⟨rfl,rfl⟩,h⟩:=u26ndj L a p hd bd i x hi hsm gx q b s (decide_eq_true hk) (decide_eq_true (by omega)) ⟨by omega,get_of adA hq⟩ (k10c x.p x.ts hts) (by simp [hb]) s52 hc
    exact fin h
 |cons k0 kr=>
  by_cases hv:varsOf x.terms=[]
  ·have hv':(varsOf x.terms).map AV.str=[]:=by rw [hv];rfl
   rw [hv,List.append_nil]
   rcases hs with ⟨pl,s,hk⟩|⟨s,hk⟩|⟨q,b,s,hk,hq,hb⟩
   ·obtain ⟨e,t,⟨rfl,rfl⟩,h⟩:=u26rai L a p hd bd (k0::kr) i x hi hsm gx pl s (decide_eq_false hk) s52 hv'
    exact h
   ·obtain ⟨e,t,⟨rfl,rfl⟩,h⟩:=u26rbi L a p hd bd (k0::kr) i x hi hsm gx s (decide_eq_true hk) s52 hv'
    exact h
   ·obtain ⟨e,t,⟨rfl,rfl⟩,h⟩:=u26rdi L a p hd bd (k0::kr) i x hi hsm gx q b s (decide_eq_true hk) (decide_eq_true (by omega)) ⟨by omega,get_of adA hq⟩ (k10b x.p x.ts (k0::kr) hts (by omega)) (by simp [hb]) s52 hv'
    exact h
  ·have hc:True∧(0:Nat)=0∧((k0::kr).map AV.str).length=((k0::kr).map AV.str).length∧(∀e,e∈(varsOf x.terms).map AV.str→okE 1 e)∧(∀e,e∈(k0::kr).map AV.str→okE 1 e)∧((((k0::kr).map AV.str).length+((varsOf x.terms).map AV.str).length:Nat):Int)*16≤140737488355328∧((k0::kr).map AV.str).length+((varsOf x.terms).map AV.str).length≤9223372036854775807:=
    ⟨trivial,rfl,rfl,okE_strs _,okE_strs _,by simp only [List.length_map];omega,by simp only [List.length_map];omega⟩
   have fin:∀{s:St},Rz 89 (loopOf Tryz.f26 1) s .normal ⟨[Z300 L,Z301,(7,.row 143 0 (((k0::kr).map AV.str).length+((varsOf x.terms).map AV.str).length)),Z307 i],[Z303 p hd bd,(143,.row 1 ((k0::kr).map AV.str++(varsOf x.terms).map AV.str))]⟩→Rz 89 (loopOf Tryz.f26 1) s .normal ⟨[Z300 L,Z301,(7,kU (k0::kr++varsOf x.terms)),Z307 i],Z303 p hd bd::kP (k0::kr++varsOf x.terms)⟩:=by
    intro s h
    rw [show ((k0::kr).map AV.str).length+((varsOf x.terms).map AV.str).length=(((k0::kr)++varsOf x.terms).map AV.str).length from by simp only [List.length_map,List.length_append],←List.map_append] at h
    exact h
   rcases hs with ⟨pl,s,hk⟩|⟨s,hk⟩|⟨q,b,s,hk,hq,hb⟩
   ·obtain ⟨e,t,⟨rfl,rfl⟩,h⟩:=u26raj L a p hd bd (k0::kr) i x hi hsm gx pl s (decide_eq_false hk) s52 hc
    exact fin h
   ·obtain ⟨e,t,⟨rfl,rfl⟩,h⟩:=u26rbj L a p hd bd (k0::kr) i x hi hsm gx s (decide_eq_true hk) s52 hc
    exact fin h
   ·obtain ⟨e,t,⟨rfl,rfl⟩,h⟩:=u26rdj L a p hd bd (k0::kr) i x hi hsm gx q b s (decide_eq_true hk) (decide_eq_true (by omega)) ⟨by omega,get_of adA hq⟩ (k10b x.p x.ts (k0::kr) hts (by omega)) (by simp [hb]) s52 hc
    exact fin h
theorem np_nil:np (⟨#[]⟩:ByteArray):= .inl (by decide)
theorem mem_meetL:a∈meetL L a:=by
 rcases meetL_cases L a with ⟨h,e⟩|⟨_,e⟩<;>rw [e]
 ·exact h
 ·simp
section
variable {rules:List Ru} {rn:List ByteArray} {p0:ByteArray} {ts0:List Tm} {am:Am} {L:List Ad}
theorem LawC.npx (h:LawC rules rn p0 ts0 am L) {r:Ru} {x:Li} (hr:r∈rules) (hx:x∈r.bd):np x.p:=by
 by_cases hk:x.k=1∨x.k=2
 ·exact h.ok.npk _ (List.mem_map.2 ⟨_,(h.ok.numb r hr).2 x hx hk,rfl⟩)
 ·rw [((h.ok.small r hr).2.2.2.2 x hx).2 hk];exact np_nil
theorem askd (hC:LawC rules rn p0 ts0 am L) {x:Li} {ks:List ByteArray} {Lc L1:List Ad} {rest body:List Li} (h:Steps rn (meetL Lc (x.p,patT x.ts ks)) (ks++varsOf x.terms) rest L1 body) (hp:L1<+:L):
  ∃q:Nat,L[q]? =some (x.p,patT x.ts ks)∧Sp 22 [.seq (L.map adA) false,.str (nameT x.p (patT x.ts ks))] [] (.int .i64 (q:Int)) []:=by
 obtain ⟨q,hq⟩:=List.mem_iff_getElem?.1 (mem_meetL Lc (x.p,patT x.ts ks))
 have hq':=pre_get (h.pre.trans hp) hq
 obtain ⟨pl,s,hpl⟩:=k22 L (nameT x.p (patT x.ts ks)) (by have:=hC.few;omega) hC.sz
 obtain rfl:=place_met hC.nd hC.bf hq' rfl hpl
 exact ⟨q,hq',s⟩
theorem none22 (hC:LawC rules rn p0 ts0 am L) {u:ByteArray} (hu:np u):Sp 22 [.seq (L.map adA) false,.str u] [] (.int .i64 (-1)) []:=by
 obtain ⟨pl,s,hpl⟩:=k22 L u (by have:=hC.few;omega) hC.sz
 obtain rfl:=place_none hu hpl
 exact s
theorem l26_1 (hC:LawC rules rn p0 ts0 am L) (a:Ad) (p:ByteArray) (hd:List Ar) (bd:List Li) (hsm:bd.length≤1000) {Lc L1:List Ad} {ks:List ByteArray} {rest body:List Li} (h:Steps rn Lc ks rest L1 body):
  (∀x,x∈rest→∃r,r∈rules∧x∈r.bd)→L1<+:L→∀(pre:List Li) (ks':List ByteArray),bd=pre++body→(∀v,v∈ks'↔v∈ks)→ks'.length+body.length*1000<1000000→Lo 89 (loopOf Tryz.f26 1) ⟨[Z300 L,Z301,(7,kU ks'),(9,.int .i64 (pre.length:Int))],Z303 p hd bd::kP ks'⟩ (.exit 2) ⟨[],[]⟩:=by
 have step:∀{pre:List Li} {x:Li} {body:List Li},bd=pre++x::body→bd[pre.length]? =some x:=by
  rintro pre x body rfl
  rw [List.getElem?_append_right (Nat.le_refl _),Nat.sub_self];rfl
 have grow:∀{ks ks' vs:List ByteArray},(∀v,v∈ks'↔v∈ks)→∀v,v∈ks'++vs↔v∈ks++vs:=fun h v=>by
  rw [List.mem_append,List.mem_append,h v]
 have sm:∀{x:Li},(∃r,r∈rules∧x∈r.bd)→x.terms.length<1000:=fun {x} ⟨r,h1,h2⟩=>(hC.ok.small r h1).2.2.2.1 x h2
 induction h with
 |nil Lc ks=>
  intro _ _ pre ks' e _ _
  rw [List.append_nil] at e
  subst e
  cases ks' with
  |nil=>
   obtain ⟨e,t,⟨rfl,rfl⟩,h⟩:=f26n L a p hd bd
   exact .leave h (by simp)
  |cons k0 kr=>
   obtain ⟨e,t,⟨rfl,rfl⟩,h⟩:=f26r L a p hd bd (k0::kr)
   exact .leave h (by simp)
 | @skip Lc L1 ks rest body j x hx hn h ih=>
   intro hr hp pre ks' e hks hl
   have hxr:=hr x (List.mem_of_getElem? hx)
   have hT:=sm hxr
   have hvl:(varsOf x.terms).length<1000:=Nat.lt_of_le_of_lt (varsOf_len _) hT
   simp only [List.length_cons] at hl
   have hq:=ih (fun y hy=>hr y (List.mem_of_mem_eraseIdx hy)) hp (pre++[x]) (ks'++varsOf x.terms) (by rw [e];simp) (grow hks) (by rw [List.length_append];omega)
   rw [show (pre++[x]).length=pre.length+1 from by simp] at hq
   refine .turn (turn26 L a p hd bd ks' pre.length x hsm (step e) hT (by omega) ?_) hq
   obtain ⟨r,hr1,hr2⟩:=hxr
   by_cases hk:x.k=1
   ·exact .inr (.inl ⟨none22 hC (hC.npx hr1 hr2),hk⟩)
   ·exact .inl ⟨_,none22 hC (hC.npx hr1 hr2),hk⟩
 | @ask Lc L1 ks rest body j x hx hk hp' h ih=>
   intro hr hp pre ks' e hks hl
   have hxr:=hr x (List.mem_of_getElem? hx)
   have hT:=sm hxr
   have hvl:(varsOf x.terms).length<1000:=Nat.lt_of_le_of_lt (varsOf_len _) hT
   simp only [List.length_cons] at hl
   have hq:=ih (fun y hy=>hr y (List.mem_of_mem_eraseIdx hy)) hp (pre++[({x with p:=nameT x.p (patT x.ts ks)}:Li)]) (ks'++varsOf x.terms) (by rw [e];simp) (grow hks) (by rw [List.length_append];omega)
   rw [show (pre++[({x with p:=nameT x.p (patT x.ts ks)}:Li)]).length=pre.length+1 from by simp] at hq
   obtain ⟨q,h1,h2⟩:=askd hC h hp
   exact .turn (turn26 L a p hd bd ks' pre.length ({x with p:=nameT x.p (patT x.ts ks)}:Li) hsm (step e) hT (by omega) (.inr (.inr ⟨q,_,h2,hk,h1,(patT_congr hks).symm⟩))) hq
end
abbrev Z308:Nat×AV:=(0,.agg [.str p,.seq (hd.map Ar.av) false,.seq (bd.map Li.av) false])
abbrev Z30b:St:=⟨[Z308 p hd bd,(1,.agg [.str a.1,.str a.2]),Z300 L],[]⟩
theorem b26n (l26_0q:Lo 89 (loopOf Tryz.f26 0) (Z30a L a p hd bd) (.exit 0) ⟨[Z300 L,Z301,Z306],[Z303 p hd bd]⟩) (l26_1q:Lo 89 (loopOf Tryz.f26 1) ⟨[Z300 L,Z301,Z306,(9,.int .i64 0)],[Z303 p hd bd]⟩ (.exit 2) ⟨[],[]⟩):En 89 (bodyOf Tryz.f26) (Z30b L a p hd bd) (fun e t=>e= .ret∧t=⟨[(6,.bool true)],[]⟩):=by
 have hl0:=l26_0q
 have hl1:=l26_1q
 exact gE ⟨rfl,rfl⟩ 0 [.cut [2,3,4,7,8] [K1 3,K1 4],.sum (.exit 0) [Z300 L,Z301,Z306] [Z303 p hd bd],.cut [2,3,7,9] [K1 3],.sum (.exit 2) [] []] [6] [] (aC5 rT rT hl0 rT hl1)
theorem b26r (l26_0q:Lo 89 (loopOf Tryz.f26 0) (Z30a L a p hd bd) (.exit 0) (Z309 L p hd bd ks)) (l26_1q:Lo 89 (loopOf Tryz.f26 1) ⟨[Z300 L,Z301,(7,.row 143 0 (ks.map AV.str).length),(9,.int .i64 0)],[Z303 p hd bd,Z305 ks]⟩ (.exit 2) ⟨[],[]⟩):En 89 (bodyOf Tryz.f26) (Z30b L a p hd bd) (fun e t=>e= .ret∧t=⟨[(6,.bool true)],[]⟩):=by
 have hl0:=l26_0q
 have hl1:=l26_1q
 exact gE ⟨rfl,rfl⟩ 0 [.cut [2,3,4,7,8] [K1 3,K1 4],.sum (.exit 0) [Z300 L,Z301,(7,.row 143 0 (ks.map AV.str).length)] [Z303 p hd bd,Z305 ks],.cut [2,3,7,9] [K1 3,K1 143],.sum (.exit 2) [] []] [6] [] (aC6 rT rT hl0 rT (zs2m9r ks) hl1)
theorem k26 {rules:List Ru} {rn:List ByteArray} {p0:ByteArray} {ts0:List Tm} {am:Am} {L:List Ad} (hC:LawC rules rn p0 ts0 am L) (a:Ad) (p:ByteArray) (hd:List Ar) (hhd:hd.length≤24) (hpl:a.2.size=hd.length) {Lc L1:List Ad} {ks:List ByteArray} {rest body:List Li} (hk:headK a.2 hd ks) (h:Steps rn Lc ks rest L1 body) (hsm:body.length≤100) (hr:∀x,x∈rest→∃r,r∈rules∧x∈r.bd) (hp:L1<+:L):
  Sp 26 [.agg [.str p,.seq (hd.map Ar.av) false,.seq (body.map Li.av) false],.agg [.str a.1,.str a.2],.seq (L.map adA) false] [] (.bool true) []:=by
 obtain ⟨ks',hL0,hl,hk'⟩:=l26_0 L a p hd body hhd hpl
 have hL1:=l26_1 hC a p hd body (by omega) h hr hp [] ks' rfl (fun v=>(hk' v).trans (hk v).symm) (by omega)
 have hn:noIdsL [AV.agg [.str p,.seq (hd.map Ar.av) false,.seq (body.map Li.av) false],.agg [.str a.1,.str a.2],.seq (L.map adA) false]=true:=by simp [noIdsL,noIds]
 cases ks' with
 |nil=>
  obtain ⟨e,t,⟨rfl,rfl⟩,g⟩:=b26n L a p hd body hL0 hL1
  exact sP Tryz.f26 hn g (.inr rfl)
 |cons k0 kr=>
  obtain ⟨e,t,⟨rfl,rfl⟩,g⟩:=b26r L a p hd body (k0::kr) hL0 hL1
  exact sP Tryz.f26 hn g (.inr rfl)
end
section
variable (rules:List Ru) (p:ByteArray) (L:List Ad) (out:List Ru) (nm:ByteArray) (ts:List Tm) (a_ i:Nat) (a:Ad)
abbrev Z310:Nat×AV:=(0,.seq (rules.map Ru.av) false)
abbrev Z311:Nat×AV:=(5,.tptr [.seq (out.map Ru.av) false,.str nm,.seq (ts.map Tm.av) false,.nils])
abbrev Z312:Nat×AV:=(6,.seq (L.map adA) false)
abbrev Z313:Nat×AV:=(9,.int .i64 (i:Int))
theorem n5a (k:Nat) (a:Ad) (hA:0≤(i:Int)∧(L.map adA)[Int.toNat (i:Int)]? =some (.agg [.str a.1,.str a.2])) (r:Ru) (hk:k<rules.length) (hsm:rules.length≤2000000) (hr:0≤(k:Int)∧(rules.map Ru.av)[Int.toNat (k:Int)]? =some (.agg [.str r.p,.seq (r.hd.map Ar.av) false,.seq (r.bd.map Li.av) false])) (hne:(!decide (r.p=a.1))=true):EN 178 (loopOf Tryz.f5 1) ⟨[Z310 rules,Z311 out nm ts,Z312 L,(8,.int .i64 (a_:Int)),Z313 i,(10,.int .i64 (k:Int))],[]⟩ ⟨[Z310 rules,Z311 out nm ts,Z312 L,(8,.int .i64 (a_:Int)),Z313 i,(10,.int .i64 ((k+1:Nat):Int))],[]⟩:=by
 exact gE ⟨rfl,rfl⟩ 0 [.is true,.elt (.agg [.str (Ru.p r),.seq (List.map Ar.av (Ru.hd r)) false,.seq (List.map Li.av (Ru.bd r)) false]),.elt (.agg [.str (Prod.fst a),.str (Prod.snd a)]),.is true] [0,5,6,8,9,10] [] (aC5 (d1 Ru.av rules k (by omega)) hr hA hne (w1 k (by omega)))
theorem n5b (k:Nat) (a:Ad) (hA:0≤(i:Int)∧(L.map adA)[Int.toNat (i:Int)]? =some (.agg [.str a.1,.str a.2])) (r:Ru) (hk:k<rules.length) (hsm:rules.length≤2000000) (hr:0≤(k:Int)∧(rules.map Ru.av)[Int.toNat (k:Int)]? =some (.agg [.str r.p,.seq (r.hd.map Ar.av) false,.seq (r.bd.map Li.av) false])) (hne:(!decide (r.p=a.1))=false) (R:Ru) (hR:0≤(a_:Int)∧(out.map Ru.av)[Int.toNat (a_:Int)]? =some (.agg [.str R.p,.seq (R.hd.map Ar.av) false,.seq (R.bd.map Li.av) false])) (hal:a_<out.length) (hos:out.length<900000000) (bx:List Li) (k25:Sp 25 [.agg [.str R.p,.seq (R.hd.map Ar.av) false,.seq (R.bd.map Li.av) false],.seq (L.map adA) false] [] (.agg [.str a.1,.seq (R.hd.map Ar.av) false,.seq (bx.map Li.av) false]) []) (k24:Sp 24 [.agg [.str a.1,.seq (R.hd.map Ar.av) false,.seq (bx.map Li.av) false],.agg [.str r.p,.seq (r.hd.map Ar.av) false,.seq (r.bd.map Li.av) false]] [] (.bool true) []) (k26:Sp 26 [.agg [.str R.p,.seq (R.hd.map Ar.av) false,.seq (R.bd.map Li.av) false],.agg [.str a.1,.str a.2],.seq (L.map adA) false] [] (.bool true) []):EN 178 (loopOf Tryz.f5 1) ⟨[Z310 rules,Z311 out nm ts,Z312 L,(8,.int .i64 (a_:Int)),Z313 i,(10,.int .i64 (k:Int))],[]⟩ ⟨[Z310 rules,Z311 out nm ts,Z312 L,(8,.int .i64 ((a_+1:Nat):Int)),Z313 i,(10,.int .i64 ((k+1:Nat):Int))],[]⟩:=by
 exact gE ⟨rfl,rfl⟩ 0 [.is true,.elt (.agg [.str (Ru.p r),.seq (List.map Ar.av (Ru.hd r)) false,.seq (List.map Li.av (Ru.bd r)) false]),.elt (.agg [.str (Prod.fst a),.str (Prod.snd a)]),.is false,.is false,.elt (.agg [.str (Ru.p R),.seq (List.map Ar.av (Ru.hd R)) false,.seq (List.map Li.av (Ru.bd R)) false]),.call (.agg [.str (Prod.fst a),.seq (List.map Ar.av (Ru.hd R)) false,.seq (bx.map Li.av) false]) [] [],.elt (.agg [.str (Ru.p r),.seq (List.map Ar.av (Ru.hd r)) false,.seq (List.map Li.av (Ru.bd r)) false]),.call (.bool true) [] [],.elt (.agg [.str (Ru.p R),.seq (List.map Ar.av (Ru.hd R)) false,.seq (List.map Li.av (Ru.bd R)) false]),.elt (.agg [.str (Prod.fst a),.str (Prod.snd a)]),.call (.bool true) [] []] [0,5,6,8,9,10] [] (aC14 (d1 Ru.av rules k (by omega)) hr hA hne (show decide ((↑(out.map Ru.av).length:Int)≤(a_:Int))=false from by simp;omega) hR k25 hr k24 hR hA k26 (w1 a_ (by omega)) (w1 k (by omega)))
theorem n5z:En 178 (loopOf Tryz.f5 1) ⟨[Z310 rules,Z311 out nm ts,Z312 L,(8,.int .i64 (a_:Int)),Z313 i,(10,.int .i64 ((rules.length:Nat):Int))],[]⟩ (fun e t=>e= .exit 2∧t=⟨[Z310 rules,Z311 out nm ts,Z312 L,(8,.int .i64 (a_:Int)),Z313 i],[]⟩):=by
 exact gE ⟨rfl,rfl⟩ 0 [.is false] [0,5,6,8,9] [] (aC1 (zsrv5t rules))
theorem o5 (hA:0≤(i:Int)∧(L.map adA)[Int.toNat (i:Int)]? =some (.agg [.str a.1,.str a.2])) (at2:Nat) (nm2:ByteArray) (hd:List Ar) (x:Li) (vs:List ByteArray) (hi:i<L.length) (hLs:L.length≤1000) (l5_1q:Lo 178 (loopOf Tryz.f5 1) ⟨[Z310 rules,Z311 out nm ts,Z312 L,(8,.int .i64 (a_:Int)),Z313 i,(10,.int .i64 0)],[]⟩ (.exit 2) ⟨[Z310 rules,Z311 out nm ts,Z312 L,(8,.int .i64 (at2:Int)),Z313 i],[]⟩) (hR:0≤(at2:Int)∧(out.map Ru.av)[Int.toNat (at2:Int)]? =some (.agg [.str nm2,.seq (hd.map Ar.av) false,.seq [x.av] false])) (hal:at2<out.length) (hos:out.length<900000000) (hx0:0≤(0:Int)∧[x.av][Int.toNat (0:Int)]? =some x.av) (hxl:(!decide (((List.length [x.av]:Nat):Int)=1))=false) (hxk:(!decide (x.k=1))=false) (hxp:(!decide (x.p=a.1))=false) (k27:Sp 27 [.agg [.str nm2,.seq (hd.map Ar.av) false,.seq [x.av] false]] [] (.tup [.agg [.str nm2,.seq (x.ts.map Tm.av) false],.bool true]) []) (k21:Sp 21 [.seq (x.ts.map Tm.av) false,.seq (x.ts.map Tm.av) false] [] (.bool true) []) (k28:Sp 28 [.agg [.str nm2,.seq (x.ts.map Tm.av) false]] [] (.seq (vs.map .str) false) []) (hvl:(!decide (((vs.map AV.str).length:Int)=(a.2.size:Int)))=false):EN 178 (loopOf Tryz.f5 0) ⟨[Z310 rules,Z311 out nm ts,Z312 L,(8,.int .i64 (a_:Int)),Z313 i],[]⟩ ⟨[Z310 rules,Z311 out nm ts,Z312 L,(8,.int .i64 ((at2+1:Nat):Int)),(9,.int .i64 ((i+1:Nat):Int))],[]⟩:=by
 exact gE ⟨rfl,rfl⟩ 0 [.is true,.cut [0,5,6,8,9,10] [],.sum (.exit 2) [Z310 rules,Z311 out nm ts,Z312 L,(8,.int .i64 (at2:Int)),Z313 i] [],.is false,.elt (.agg [.str nm2,.seq (hd.map Ar.av) false,.seq [Li.av x] false]),.is false,.elt (.agg [.str nm2,.seq (hd.map Ar.av) false,.seq [Li.av x] false]),.elt (Li.av x),.is false,.elt (.agg [.str nm2,.seq (hd.map Ar.av) false,.seq [Li.av x] false]),.elt (Li.av x),.elt (.agg [.str (Prod.fst a),.str (Prod.snd a)]),.is false,.elt (.agg [.str nm2,.seq (hd.map Ar.av) false,.seq [Li.av x] false]),.call (.tup [.agg [.str nm2,.seq (List.map Tm.av (Li.ts x)) false],.bool true]) [] [],.elt (.agg [.str nm2,.seq (hd.map Ar.av) false,.seq [Li.av x] false]),.elt (Li.av x),.call (.bool true) [] [],.call (.seq (vs.map AV.str) false) [] [],.elt (.agg [.str (Prod.fst a),.str (Prod.snd a)]),.is false] [0,5,6,8,9] [] (aC22 (d1 adA L i (by omega)) l5_1q (show decide ((↑(out.map Ru.av).length:Int)≤(at2:Int))=false from by simp;omega) hR rF hR hx0 hxk hR hx0 hA hxp hR k27 hR hx0 k21 k28 hA hvl (w1 at2 (by omega)) (w1 i (by omega)))
theorem o5z (hLl:(L.map adA).length=L.length) (hi:i=L.length):En 178 (loopOf Tryz.f5 0) ⟨[Z310 rules,Z311 out nm ts,Z312 L,(8,.int .i64 (a_:Int)),Z313 i],[]⟩ (fun e t=>e= .exit 0∧t=⟨[Z311 out nm ts,(8,.int .i64 (a_:Int))],[]⟩):=by
 exact gE ⟨rfl,rfl⟩ 0 [.is false] [5,8] [] (aC1 (show decide ((i:Int)<(↑(L.map adA).length:Int))=false from decide_eq_false (by omega)))
theorem tV_vars (n:Nat) (hn:n≤24):(varsOf (tV n)).length=n:=
 (show∀n:Fin 25,(varsOf (tV n.val)).length=n.val by decide+kernel) ⟨n,by omega⟩
theorem hV_t (n:Nat):(hV n).map Ar.t=tV n:=by
 unfold hV tV
 rw [List.map_map];rfl
theorem Un_nil:Un L [] []:=⟨rfl,fun i x h=>by simp at h⟩
theorem Un_cons {L:List Ad} {bd bo:List Li} {x z:Li} (h:∃pl:Int,Sp 22 [.seq (L.map adA) false,.str x.p] [] (.int .i64 pl) []∧((pl= -1∧z=x)∨∃(q:Nat) (a:Ad),pl=(q:Int)∧L[q]? =some a∧z={x with p:=a.1})) (hu:Un L bd bo):Un L (x::bd) (z::bo):=by
 refine ⟨by rw [List.length_cons,List.length_cons,hu.1],fun i y hy=> ?_⟩
 cases i with
 |zero=>
  simp at hy
  subst hy
  obtain ⟨pl,s,⟨h1,h2⟩|⟨q,a,h1,h2,h3⟩⟩:=h
  ·exact ⟨pl,s,.inl ⟨h1,by simp [h2]⟩⟩
  ·exact ⟨pl,s,.inr ⟨q,a,h1,h2,by simp [h3]⟩⟩
 |succ i=>simpa using hu.2 i y (by simpa using hy)
theorem erase_perm:∀{l:List Li} {i:Nat} (h:i<l.length),(l[i]::l.eraseIdx i).Perm l
 |x::l,0,_=> .refl _
 |x::l,i+1,h=>by
  have h':i<l.length:=by simpa using h
  exact (List.Perm.swap x l[i] (l.eraseIdx i)).trans ((erase_perm h').cons x)
theorem perm_at {l:List Li} {i:Nat} {x:Li} (h:l[i]? =some x) {m:List Li} (hm:m.Perm (l.eraseIdx i)):(x::m).Perm l:=by
 obtain ⟨h1,h2⟩:=List.getElem?_eq_some_iff.1 h
 refine (hm.cons x).trans ?_
 rw [←h2]
 exact erase_perm h1
section
variable {rules:List Ru} {rn:List ByteArray} {p0:ByteArray} {ts:List Tm} {am:Am} {L:List Ad}
theorem Steps.un (hC:LawC rules rn p0 ts am L) {Lc L1:List Ad} {ks:List ByteArray} {rest body:List Li} (h:Steps rn Lc ks rest L1 body):(∀x,x∈rest→∃r,r∈rules∧x∈r.bd)→L1<+:L→∃bx,Un L body bx∧bx.Perm rest:=by
 induction h with
 |nil Lc ks=>exact fun _ _=>⟨[],Un_nil L,.refl _⟩
 | @skip Lc L1 ks rest body j x hx hn h ih=>
   intro hr hp
   obtain ⟨bx,h1,h2⟩:=ih (fun y hy=>hr y (List.mem_of_mem_eraseIdx hy)) hp
   obtain ⟨r,hr1,hr2⟩:=hr x (List.mem_of_getElem? hx)
   exact ⟨x::bx,Un_cons ⟨-1,none22 hC (hC.npx hr1 hr2),.inl ⟨rfl,rfl⟩⟩ h1,perm_at hx h2⟩
 | @ask Lc L1 ks rest body j x hx hk hp' h ih=>
   intro hr hp
   obtain ⟨bx,h1,h2⟩:=ih (fun y hy=>hr y (List.mem_of_mem_eraseIdx hy)) hp
   obtain ⟨q,g1,g2⟩:=askd hC h hp
   exact ⟨x::bx,Un_cons ⟨q,g2,.inr ⟨q,_,rfl,g1,rfl⟩⟩ h1,perm_at hx h2⟩
theorem l5_1 (hC:LawC rules rn p0 ts am L) (out:List Ru) (nm:ByteArray) (i:Nat) (a:Ad) (ha:L[i]? =some a) (hos:out.length<900000000):∀(m k:Nat) {outc out1:List Ru} {Lc L1:List Ad},k+m=rules.length→Wrs rn a (rulesOf (rules.drop k) a.1) Lc outc L1 out1→L1<+:L→(out1++[gRu a])<+:out→
  Lo 178 (loopOf Tryz.f5 1) ⟨[Z310 rules,Z311 out nm ts,Z312 L,(8,.int .i64 (outc.length:Int)),Z313 i,(10,.int .i64 (k:Int))],[]⟩ (.exit 2) ⟨[Z310 rules,Z311 out nm ts,Z312 L,(8,.int .i64 (out1.length:Int)),Z313 i],[]⟩
 |0,k,outc,out1,Lc,L1,h0,h,_,_=>by
  obtain rfl:k=rules.length:=by omega
  rw [List.drop_length] at h
  cases h with
  |nil=>
   obtain ⟨e,t,⟨rfl,rfl⟩,z⟩:=n5z rules L out nm ts outc.length i
   exact .leave z (by simp)
 |m+1,k,outc,out1,Lc,L1,h0,h,hp,ho=>by
  have haL:=List.mem_of_getElem? ha
  obtain ⟨U,hu,hUL⟩:=hC.all
  have hA:0≤(i:Int)∧(L.map adA)[Int.toNat (i:Int)]? =some (.agg [.str a.1,.str a.2]):=⟨by omega,get_of adA ha⟩
  have hk:k<rules.length:=by omega
  have hrk:rules[k]? =some rules[k]:=List.getElem?_eq_getElem hk
  have hrm:=List.mem_of_getElem? hrk
  rw [List.drop_eq_getElem_cons hk] at h
  generalize rules[k]=r at hrk h hrm
  have gr:0≤(k:Int)∧(rules.map Ru.av)[Int.toNat (k:Int)]? =some (.agg [.str r.p,.seq (r.hd.map Ar.av) false,.seq (r.bd.map Li.av) false]):=⟨by omega,get_of Ru.av hrk⟩
  have hsmr:=hC.sm
  by_cases e:r.p=a.1
  ·rw [show rulesOf (r::rules.drop (k+1)) a.1=r::rulesOf (rules.drop (k+1)) a.1 from by simp [rulesOf,e]] at h
   cases h with
   | @cons _ _ _ _ _ Lm _ ks body h1 h2 h3=>
     obtain ⟨s1,s2,s3,s4,s5⟩:=hC.ok.small r hrm
     have hpr:=h3.pre
     have hpo:=(hpr.2.trans (List.prefix_append _ [gRu a])).trans ho
     have hget:out[outc.length]? =some ⟨nameT a.1 a.2,r.hd,body⟩:=pre_get hpo (by rw [List.getElem?_append_right (Nat.le_refl _),Nat.sub_self];rfl)
     have hlt:=(List.getElem?_eq_some_iff.1 hget).1
     have hbl:body.length=r.bd.length:=h2.blen
     have hrr:∀x,x∈r.bd→∃r,r∈rules∧x∈r.bd:=fun x hx=>⟨r,hrm,hx⟩
     obtain ⟨bx,u1,u2⟩:=h2.un hC hrr (hpr.1.trans hp)
     obtain ⟨pl,s22,hpl⟩:=k22 L (nameT a.1 a.2) (by have:=hC.few;omega) hC.sz
     obtain rfl:=place_met hC.nd hC.bf ha rfl hpl
     have s25:=k25 L (nameT a.1 a.2) a.1 r.hd body bx (by omega) u1 i a.2 s22 ha
     have s24:=k24 a.1 r.hd bx r.bd (fun y hy=>Nat.lt_trans (s4 y hy) (by decide)) (by omega) (by omega) u2
     have s26:=k26 hC a (nameT a.1 a.2) r.hd s2 (hu.ari a (hUL a haL) r hrm e) h1 h2 (by omega) hrr (hpr.1.trans hp)
     rw [←e] at s24
     obtain ⟨e',t,⟨rfl,rfl⟩,g⟩:=n5b rules L out nm ts outc.length i k a hA r hk (by omega) gr (by simp [e]) ⟨nameT a.1 a.2,r.hd,body⟩ ⟨by omega,get_of Ru.av hget⟩ hlt hos bx s25 (by rw [e] at s24⊢;exact s24) s26
     have hq:=l5_1 hC out nm i a ha hos m (k+1) (by omega) h3 hp ho
     rw [show (outc++[(⟨nameT a.1 a.2,r.hd,body⟩:Ru)]).length=outc.length+1 from by simp] at hq
     exact .turn g hq
  ·rw [show rulesOf (r::rules.drop (k+1)) a.1=rulesOf (rules.drop (k+1)) a.1 from by simp [rulesOf,e]] at h
   obtain ⟨e',t,⟨rfl,rfl⟩,g⟩:=n5a rules L out nm ts outc.length i k a hA r hk (by omega) gr (by simp [e])
   exact .turn g (l5_1 hC out nm i a ha hos m (k+1) (by omega) h hp ho)
theorem l5_0 (hC:LawC rules rn p0 ts am L) (out:List Ru) (nm:ByteArray) (hos:out.length<900000000) {i:Nat} {Lc L1:List Ad} {outc out1:List Ru} (h:Ads rules rn i Lc outc L1 out1):
  L1=L→out1=out→Lo 178 (loopOf Tryz.f5 0) ⟨[Z310 rules,Z311 out nm ts,Z312 L,(8,.int .i64 (outc.length:Int)),Z313 i],[]⟩ (.exit 0) ⟨[Z311 out nm ts,(8,.int .i64 (out.length:Int))],[]⟩:=by
 have hLl:(L.map adA).length=L.length:=List.length_map ..
 have hfew:=hC.few
 induction h with
 |stop Lc outc=>
  rintro rfl rfl
  obtain ⟨e',t,⟨rfl,rfl⟩,z⟩:=o5z rules Lc outc nm ts outc.length Lc.length hLl rfl
  exact .leave z (by simp)
 | @go i a Lc Lm L1 outc outm out1 h1 h2 h3 ih=>
   intro eL eo
   have hpr:=h3.pre
   rw [eL,eo] at hpr
   have ha:L[i]? =some a:=pre_get (h2.pre.1.trans hpr.1) h1
   have haL:=List.mem_of_getElem? ha
   obtain ⟨U,hu,hUL⟩:=hC.all
   obtain ⟨u1,u2,u3⟩:=hu.mem a (hUL a haL)
   have hA:0≤(i:Int)∧(L.map adA)[Int.toNat (i:Int)]? =some (.agg [.str a.1,.str a.2]):=⟨by omega,get_of adA ha⟩
   have hin:=l5_1 hC out nm i a ha hos rules.length 0 (by omega) (by rw [List.drop_zero];exact h2) hpr.1 hpr.2
   have hget:out[outm.length]? =some (gRu a):=pre_get hpr.2 (by rw [List.getElem?_append_right (Nat.le_refl _),Nat.sub_self];rfl)
   have s27:=k27 (nameT a.1 a.2) (hV a.2.size) [gLi a.1 a.2.size] (by rw [hV_len];omega) (fun y hy=>by
    unfold hV at hy
    obtain ⟨j,_,rfl⟩:=List.mem_map.1 hy
    rfl)
   rw [hV_t] at s27
   have hvl:(!decide ((((varsOf (tV a.2.size)).map AV.str).length:Int)=(a.2.size:Int)))=false:=by
    rw [List.length_map,tV_vars _ u3];simp
   obtain ⟨e',t,⟨rfl,rfl⟩,g⟩:=o5 rules L out nm ts outc.length i a hA outm.length (nameT a.1 a.2) (hV a.2.size) (gLi a.1 a.2.size) (varsOf (tV a.2.size)) (List.getElem?_eq_some_iff.1 ha).1 (by omega) hin ⟨by omega,get_of Ru.av hget⟩ (List.getElem?_eq_some_iff.1 hget).1 hos ⟨by omega,rfl⟩ (by simp) (by simp [gLi]) (by simp [gLi]) s27 (k21 (tV a.2.size) (by rw [tV_len];omega)) (k28 (nameT a.1 a.2) (tV a.2.size) (by rw [tV_len];omega)) hvl
   have hq:=ih eL eo
   rw [show (outm++[gRu a]).length=outm.length+1 from by simp] at hq
   exact .turn g hq
end
abbrev Z314:Nat×AV:=(4,.bool true)
abbrev Z319:St:=⟨[Z314],[]⟩
theorem b5t (k17:Sp 17 [.seq (rules.map Ru.av) false] [] (.bool true) []):En 178 (bodyOf Tryz.f5) ⟨[Z310 rules,(1,atA p ts)],[]⟩ (fun e t=>e= .ret∧t=Z319):=by
 exact gE ⟨rfl,rfl⟩ 0 [.call (.bool true) [] []] [4] [] (aC1 k17)
abbrev Z315:Nat×AV:=(3,.tptr [.str p,.seq (ts.map Tm.av) false])
abbrev Z31a:St:=⟨[Z310 rules,Z315 p ts],[]⟩
theorem w5a:EN 178 (partC 0 (bodyOf Tryz.f5)) ⟨[Z310 rules,(1,atA p ts)],[]⟩ (Z31a rules p ts):=by
 exact gE ⟨rfl,rfl⟩ 0 [] [0,3] [(3,.freeze)] (aC1 rT)
theorem w5b (k17:Sp 17 [.seq (rules.map Ru.av) false] [] (.bool false) []):EN 178 (partC 1 (bodyOf Tryz.f5)) (Z31a rules p ts) (Z31a rules p ts):=by
 exact gE ⟨rfl,rfl⟩ 0 [.call (.bool false) [] []] [0,3] [] (aC1 k17)
theorem b5x (er:Int) (her:(!decide (er=0))=true) (k18:Sp 18 [.seq (rules.map Ru.av) false,atA p ts] [] (.tup [.agg [.nils,.str ⟨#[]⟩,.nils,.nils],.nils,.int .i64 er]) []) (k16:Sp 16 [] [] (.bool true) []):En 178 (restC 2 (bodyOf Tryz.f5)) (Z31a rules p ts) (fun e t=>e= .ret∧t=Z319):=by
 exact gE ⟨rfl,rfl⟩ 0 [.call (.tup [.agg [.nils,.str (ByteArray.mk #[]),.nils,.nils],.nils,.int .i64 er]) [] [],.is true,.call (.bool true) [] []] [4] [] (aC3 k18 her k16)
abbrev Z316:Nat×AV:=(5,.tptr [.nils,.str p,.seq (ts.map Tm.av) false,.nils])
abbrev Z317:Nat×AV:=(8,.int .i64 0)
abbrev Z31b:St:=⟨[Z310 rules,Z316 p ts,(6,.nils),Z317,(9,.int .i64 0)],[]⟩
theorem z5n:En 178 (loopOf Tryz.f5 0) (Z31b rules p ts) (fun e t=>e= .exit 0∧t=⟨[Z316 p ts,Z317],[]⟩):=by
 exact gE ⟨rfl,rfl⟩ 0 [.is false] [5,8] [] (aC1 rF)
abbrev Z318:Nat×AV:=(7,.int .i64 0)
theorem w5n (k18:Sp 18 [.seq (rules.map Ru.av) false,atA p ts] [] (.tup [.agg [.nils,.str p,.seq (ts.map Tm.av) false,.nils],.nils,.int .i64 0]) []):EN 178 (partC 2 (bodyOf Tryz.f5)) (Z31a rules p ts) ⟨[Z310 rules,Z316 p ts,(6,.nils),Z318],[]⟩:=by
 exact gE ⟨rfl,rfl⟩ 0 [.call (.tup [.agg [.nils,.str p,.seq (ts.map Tm.av) false,.nils],.nils,.int .i64 0]) [] []] [0,5,6,7] [(5,.freeze)] (aC2 k18 rT)
theorem b5n (l5_0q:Lo 178 (loopOf Tryz.f5 0) (Z31b rules p ts) (.exit 0) ⟨[Z316 p ts,Z317],[]⟩) (k16:Sp 16 [] [] (.bool true) []):En 178 (restC 3 (bodyOf Tryz.f5)) ⟨[Z310 rules,Z316 p ts,(6,.nils),Z318],[]⟩ (fun e t=>e= .ret∧t=Z319):=by
 exact gE ⟨rfl,rfl⟩ 0 [.is false,.cut [0,5,6,8,9] [],.sum (.exit 0) [Z316 p ts,Z317] [],.is true,.call (.bool true) [] []] [4] [] (aC4 rF l5_0q rT k16)
theorem w5c (out:List Ru) (nm:ByteArray) (L:List Ad) (k18:Sp 18 [.seq (rules.map Ru.av) false,atA p ts] [] (.tup [.agg [.seq (out.map Ru.av) false,.str nm,.seq (ts.map Tm.av) false,.nils],.seq (L.map adA) false,.int .i64 0]) []):EN 178 (partC 2 (bodyOf Tryz.f5)) (Z31a rules p ts) ⟨[Z310 rules,Z311 out nm ts,Z312 L,Z318],[]⟩:=by
 exact gE ⟨rfl,rfl⟩ 0 [.call (.tup [.agg [.seq (out.map Ru.av) false,.str nm,.seq (ts.map Tm.av) false,.nils],.seq (L.map adA) false,.int .i64 0]) [] []] [0,5,6,7] [(5,.freeze)] (aC2 k18 rT)
theorem b5z (p:ByteArray) (ts:List Tm) (out:List Ru) (nm:ByteArray) (L:List Ad) (hol:(out.map Ru.av).length=out.length) (l5_0q:Lo 178 (loopOf Tryz.f5 0) ⟨[Z310 rules,Z311 out nm ts,Z312 L,Z317,(9,.int .i64 0)],[]⟩ (.exit 0) ⟨[Z311 out nm ts,(8,.int .i64 (out.length:Int))],[]⟩) (k16:Sp 16 [] [] (.bool true) []):En 178 (restC 3 (bodyOf Tryz.f5)) ⟨[Z310 rules,Z311 out nm ts,Z312 L,Z318],[]⟩ (fun e t=>e= .ret∧t=Z319):=by
 exact gE ⟨rfl,rfl⟩ 0 [.is false,.cut [0,5,6,8,9] [],.sum (.exit 0) [Z311 out nm ts,(8,.int .i64 (↑out.length:Int))] [],.is true,.call (.bool true) [] []] [4] [] (aC4 rF l5_0q (show decide ((↑out.length:Int)=(↑(out.map Ru.av).length:Int))=true from decide_eq_true (by omega)) k16)
theorem k5 (hS:∀r,r∈rules→RuS r) (hsm:rules.length<10000000000000):Sp 5 [.seq (rules.map Ru.av) false,atA p ts] [] (.bool true) []:=by
 have ha:noIdsL [AV.seq (rules.map Ru.av) false,atA p ts]=true:=by simp [noIdsL,noIds,atA,atC]
 obtain ⟨rb,s17,h17⟩:=k17 rules hS hsm
 cases rb with
 |true=>
  obtain ⟨e,s,⟨rfl,rfl⟩,r⟩:=b5t rules p ts s17
  exact sP Tryz.f5 ha r (.inr rfl)
 |false=>
  obtain ⟨hl,hB⟩:=h17 rfl
  obtain ⟨g,pr,er,s18,hR⟩:=k18 rules p ts (by omega) (fun rn am h1 h2 h3=>uok hB h1 h2 h3)
  obtain ⟨e,s,⟨rfl,rfl⟩,r0⟩:=w5a rules p ts
  obtain ⟨e,s,⟨rfl,rfl⟩,r1⟩:=w5b rules p ts s17
  have fin:Rz 178 (restC 2 (bodyOf Tryz.f5)) (Z31a rules p ts) .ret Z319→Sp 5 [.seq (rules.map Ru.av) false,atA p ts] [] (.bool true) []:=fun h=>
   sP Tryz.f5 ha (Runs.nth 0 (by kernel_rfl) r0 (Runs.nth 1 (by kernel_rfl) r1 h)) (.inr rfl)
  rcases hR with ⟨h0,rfl,rfl⟩|⟨rfl,rfl,rfl,h24,hno⟩|⟨rfl,am,rn,L,out,hok,hrn,hp,hA,hpre,hnd,hU,hfew,hol,rfl,rfl⟩
  ·obtain ⟨e,s,⟨rfl,rfl⟩,r2⟩:=b5x rules p ts er (by simp [h0]) s18 lives_spec
   exact fin r2
  ·obtain ⟨e,s,⟨rfl,rfl⟩,r2⟩:=w5n rules p ts s18
   obtain ⟨e,s,⟨rfl,rfl⟩,z⟩:=z5n rules p ts
   obtain ⟨e,s,⟨rfl,rfl⟩,r3⟩:=b5n rules p ts (.leave z (by simp)) lives_spec
   exact fin (Runs.nth 0 (by kernel_rfl) r2 r3)
  ·have hol':(out.map Ru.av).length=out.length:=List.length_map ..
   have hC:LawC rules rn p ts am L:=⟨hok,hrn,hnd,hU,hfew,hl⟩
   obtain ⟨e,s,⟨rfl,rfl⟩,r2⟩:=w5c rules p ts out (nameT p (patT ts [])) L s18
   obtain ⟨e,s,⟨rfl,rfl⟩,r3⟩:=b5z rules p ts out (nameT p (patT ts [])) L hol' (l5_0 hC out (nameT p (patT ts [])) hol hA rfl rfl) lives_spec
   exact fin (Runs.nth 0 (by kernel_rfl) r2 r3)
end
end Go.Ped
namespace Go.Proofs.YthhfolohakiemaaGreatDoor.adornBare
open Go.ChangeShapes Go.WideShapes Go.ChangeAt Go.RowKit Go.Ped
section
set_option maxRecDepth 100000
theorem own:ownKnob Tryz.prog.godebug=none:=by kernel_rfl
theorem laidOut:laidOutB Tryz.prog=true:=by kernel_rfl
theorem gTabType:(Tryz.prog.globals[0]?).map (·.type)=some 298:=by kernel_rfl
theorem ulTab:Tryz.prog.underlying 298=some (.array 20 204):=by kernel_rfl
theorem ulTabE:Tryz.prog.underlying 204=some (.int .u64):=by kernel_rfl
theorem cells298:Tryz.prog.cellsOf 298=20:=by kernel_rfl
theorem cells204:Tryz.prog.cellsOf 204=1:=by kernel_rfl
theorem table {W:World} (h:laidMetH Tryz.prog Rows.adornBareRow.laid W):Tabs W:=by
 obtain ⟨_,⟨_,_,_,_,_,_,_,_,_,_,⟨_,_,_,_,_,_,_,_,_,_,⟨g',t',cs,fuel,p,q,hg',ht',hvar,hd,_,_⟩,_⟩,_⟩,_⟩:=h
 obtain rfl:=Option.some.inj (Tryz.gTab.symm.trans hg')
 obtain rfl:=Option.some.inj (gTabType.symm.trans ht')
 have hd':DataW.trod (fun _=>()) Tryz.prog W 0 (fun _=>true) false fuel 298 cs.toList=some (Lib.tabData .u64 Lib.pow10Tab,p):=hd
 have hcs:=Lib.cells_of_tab ulTab ulTabE cells204 cells298 hd'
 refine tabs_of ?_
 unfold Lib.TabIs
 rw [hvar]
 congr 1
 rw [←hcs]
theorem contract (H:Type) (enc:TypeId×Value→H) (W:World) (base:Nat) (args:Array Value) (ds gs:List (DataW H)) (before:List MemPlace)
  (hval:∀(j:Nat) t v,Tryz.f5.params[j]? =some t→args[j]? =some v→Value.okWide Tryz.prog W .any base t v)
  (hW:DataW.Whole enc Tryz.prog Tryz.f5.params.toList Rows.adornBareSpec.vars false W args.toList ds gs before)
  (hsz:(DataW.weightsEach Tryz.prog (Tryz.f5.params.toList++(OpenSpec.ofChange Rows.adornBareSpec).bare.plain.varTypes Tryz.prog) (ds++gs)).all (· ≤reachBytes)=true) (hL:laidMetH Tryz.prog Rows.adornBareRow.laid W):
  Calls Tryz.prog 5 args W fun e W'=>∃v,e= .returned v∧Rows.adornBareSpec.post enc Tryz.prog Tryz.f5 false true false false W args v W':=by
 have hW':=hW
 obtain ⟨p,q,hA0,hV,rfl,hfz,hnd⟩:=hW
 have hA:DataW.TrodAll enc Tryz.prog W 0 (fun _=>true) true Tryz.f5.params.toList args.toList ds p:=hA0
 rw [Tryz.params5] at hA hval
 obtain ⟨v0,vs0,d0,ds0,p0,q0,hargs,rfl,rfl,h0,r0⟩:=trodAll_cons hA
 obtain ⟨v1,vs1,d1,ds1,p1,q1,rfl,rfl,rfl,h1,r1⟩:=trodAll_cons r0
 obtain ⟨rfl,rfl,rfl⟩:=trodAll_nil r1
 obtain rfl:args= #[v0,v1]:=by cases args;simp_all
 obtain ⟨rfl,rfl⟩:=trodVars_none hV
 clear hA0 hA r0 r1
 simp only [List.append_nil] at hW'
 obtain ⟨a0,l0,c0,rfl⟩:=okWide_slice Tryz.underlying52 (hval 0 52 v0 rfl rfl)
 obtain ⟨cs1,rfl,_⟩:=okWide_struct Tryz.underlying24 (hval 1 24 v1 rfl rfl)
 have hlt:∀x∈p0++p1,x.block<W.heap.size:=fun x hx=>by simpa using hW'.lt x hx
 have hwt:∀{j:Nat} {t:TypeId} {d:DataW H},[52,24][j]? =some t→[d0,d1][j]? =some d→Fit Tryz.prog t d:=by
  intro j t d ht hd
  refine List.all_eq_true.2 fun x hx=>List.all_eq_true.1 hsz x ?_
  refine DataW.weights_mem_each (j:=j) (t:=t) (d:=d) ?_ ?_ x hx
  ·rw [Tryz.params5]
   match j,ht with
   |0,ht=>simpa using ht
   |1,ht=>simpa using ht
   |j+2,ht=>simp at ht
  ·simpa using hd
 have k0:=h0
 have k1:=h1
 obtain ⟨n0,h0⟩:=h0
 obtain ⟨n1,h1⟩:=h1
 obtain ⟨v0',rules,e0,V0,hG,b0⟩:=V_sliceW Ru.av RuS Tryz.underlying52 cells66 (by omega) (hwt (j:=0) rfl rfl) (fun n cs y g1 g2 _=>readRu g1 g2) h0
 obtain rfl:Value.slice a0 l0 c0=v0':=by
  have:[Value.slice a0 l0 c0]=[v0']:=e0
  injection this
 rw [bytes66,reachV] at b0
 obtain ⟨pr,ts,E1,_⟩:=readAt h1 (hwt (j:=1) rfl rfl)
 have V1:V (allB W) noB W (.agg cs1) (atA pr ts):= .agg cs1.toList (atC pr ts) E1.1 E1.2
 have hS:=k5 rules pr ts hG (by omega)
 have hT:=table hL
 let F:Fr:={w0:=W,S0:=allB W,M:=fun _=>False,β0:=noB}
 have M:Mem F (allB W) noB [] W:=Mem.mk' ⟨⟨hT,fun h=>h⟩,rfl,rfl,rfl,Nat.le_refl _,fun _ _ _=>rfl,fun id o h=>(by cases h),fun id bi h=>(by cases h),fun i j bi bj h=>(by cases h),fun i bi h=>(by cases h),fun b h=>h,fun _ h=>h,fun _ h=> .inl h,fun i b _ h=>h⟩ (fun _=>Hid.noOwn (fun id o j sz es h=>by cases h))
 have hcall:=hS F (allB W) noB [] W [.slice a0 l0 c0,.agg cs1] M rfl (fun i v x hi hx=>by
  match i with
  |0=>simp at hi hx;subst hi;subst hx;exact V0
  |1=>simp at hi hx;subst hi;subst hx;exact V1
  |i+2=>simp at hi) (fun id o hm=>by cases hm) (fun id o _ _=>rfl)
 refine hcall.mono ?_
 rintro e W' ⟨v,S',β',rfl,E,M',hv⟩
 cases hv with
 |bool b=>
 have hB:Below W.heap.size W W':=⟨M'.os,M'.tape,M'.output,M'.size,fun k hk=>M'.keep k hk (fun h=>h)⟩
 refine ⟨_,rfl,[d0,d1],[],p0++p1,[],p0++p1,[],hW',?_,?_,?_,hB.frame _,fun h=>by cases h⟩
 ·exact trodAll_cons_mk (shut_bool Tryz.underlying4 _) trodAll_mk0
 ·rw [Tryz.params5]
  have t0:=Below.trod laidOut (by kernel_rfl) (of_decide_eq_true (by kernel_rfl)) k0 hB (fun x hx=>hlt x (by simp [hx]))
  have t1:=Below.trod laidOut (by kernel_rfl) (of_decide_eq_true (by kernel_rfl)) k1 hB (fun x hx=>hlt x (by simp [hx]))
  have:=trodAll_cons_mk t0 (trodAll_cons_mk t1 trodAll_mk0)
  have h3:DataW.TrodAll enc Tryz.prog W' 0 (fun b=>decide (b<W.heap.size)) true [52,24] [Value.slice a0 l0 c0,Value.agg cs1] [d0,d1] (p0++p1):=by simpa using this
  exact h3
 ·rfl
def tab0:Obj→Obj
 | .cells _ t frozen=> .cells #[.int .u64 1,.int .u64 10,.int .u64 100,.int .u64 1000,.int .u64 10000,.int .u64 100000,.int .u64 1000000,.int .u64 10000000,.int .u64 100000000,.int .u64 1000000000,.int .u64 10000000000,.int .u64 100000000000,.int .u64 1000000000000,.int .u64 10000000000000,.int .u64 100000000000000,.int .u64 1000000000000000,.int .u64 10000000000000000,.int .u64 100000000000000000,.int .u64 1000000000000000000,.int .u64 10000000000000000000] t frozen
 |o=>o
def tab1:Obj→Obj
 | .cells _ t frozen=> .cells #[.int .u8 0,.int .u8 1,.int .u8 28,.int .u8 2,.int .u8 29,.int .u8 14,.int .u8 24,.int .u8 3,.int .u8 30,.int .u8 22,.int .u8 20,.int .u8 15,.int .u8 25,.int .u8 17,.int .u8 4,.int .u8 8,.int .u8 31,.int .u8 27,.int .u8 13,.int .u8 23,.int .u8 21,.int .u8 19,.int .u8 16,.int .u8 7,.int .u8 26,.int .u8 12,.int .u8 18,.int .u8 6,.int .u8 11,.int .u8 5,.int .u8 10,.int .u8 9] t frozen
 |o=>o
def tab2:Obj→Obj
 | .cells _ t frozen=> .cells #[.int .u8 0,.int .u8 1,.int .u8 56,.int .u8 2,.int .u8 57,.int .u8 49,.int .u8 28,.int .u8 3,.int .u8 61,.int .u8 58,.int .u8 42,.int .u8 50,.int .u8 38,.int .u8 29,.int .u8 17,.int .u8 4,.int .u8 62,.int .u8 47,.int .u8 59,.int .u8 36,.int .u8 45,.int .u8 43,.int .u8 51,.int .u8 22,.int .u8 53,.int .u8 39,.int .u8 33,.int .u8 30,.int .u8 24,.int .u8 18,.int .u8 12,.int .u8 5,.int .u8 63,.int .u8 55,.int .u8 48,.int .u8 27,.int .u8 60,.int .u8 41,.int .u8 37,.int .u8 16,.int .u8 46,.int .u8 35,.int .u8 44,.int .u8 21,.int .u8 52,.int .u8 32,.int .u8 23,.int .u8 11,.int .u8 54,.int .u8 26,.int .u8 40,.int .u8 15,.int .u8 34,.int .u8 20,.int .u8 31,.int .u8 10,.int .u8 25,.int .u8 14,.int .u8 19,.int .u8 9,.int .u8 13,.int .u8 8,.int .u8 7,.int .u8 6] t frozen
 |o=>o
noncomputable def laidWorld (os:Os):World:={World.holding Tryz.prog os ⟨#[],#[],[]⟩ with heap:=(((World.holding Tryz.prog os ⟨#[],#[],[]⟩).heap.modify 0 tab0).modify 1 tab1).modify 2 tab2}
def args0:Array Value:= #[.slice none 0 0,.agg #[.string ⟨#[]⟩,.slice none 0 0]]
theorem laid_met (os:Os):laidMet Tryz.prog Rows.adornBareRow.laid ((laidWorld os).forCall (fun _ _=>0) ⟨#[],args0,[]⟩).memory:=
 laidMet_of_run' 8 (by kernel_rfl) (by kernel_rfl)
set_option maxRecDepth 100000 in
theorem lifted (os:Os) (started:os.Started) (H:Type) (enc:TypeId×Value→H) (F:Stop.Interp):
  ReturnsInHanded {} Tryz.checked os 5 .any ((OpenSpec.ofChange Rows.adornBareSpec).preRow enc Tryz.prog Tryz.f5 Rows.adornBareRow.domain false Rows.adornBareRow.laid) (((OpenSpec.ofChange Rows.adornBareSpec).at F).post enc Tryz.prog Tryz.f5 false true false false):=by
 have hx:DataW.whole enc Tryz.prog ((laidWorld os).forCall (fun _ _=>0) ⟨#[],args0,[]⟩).memory Tryz.f5.params.toList Rows.adornBareSpec.vars false args0.toList 8=some ([.nil,.agg [.lit (.string []),.nil]],[],[]):=by kernel_rfl
 refine returnsInHanded_of_row (C:=Tryz.checked) (s:=OpenSpec.ofChange Rows.adornBareSpec) own started (by kernel_rfl) Tryz.func5
  (witness_row_at (enc:=enc) (C:=Tryz.checked) false (laidWorld os) args0 rfl (by kernel_rfl) (by kernel_rfl) (by kernel_rfl)
   (OpenSpec.preRow_of_cond 8 hx (by kernel_rfl) (fun k hk=>by cases hk) (by kernel_rfl) (laid_met os))) ?_
 intro W base args ds gs before hval hW _ _ hsz hL _ _
 exact contract H enc W base args ds gs before hval hW hsz hL
theorem said:Rows.AdornBareSaid:=
 OpenClaim.holds_of_cond 5 Tryz.f5 rfl rfl rfl rfl rfl rfl rfl ⟨rfl,rfl,rfl,rfl,rfl⟩ rfl rfl rfl rfl rfl (by kernel_rfl) Tryz.func5 (by kernel_rfl)
  (of_decide_eq_true (by kernel_rfl)) (by unfold Func.isWrapper;first|(rw [if_pos (by decide+kernel)];kernel_rfl)|(rw [if_neg (by decide+kernel)];exact ⟨rfl,rfl⟩))
  (fun os started H enc _ F=>by rw [OpenClaim.pre_eq_preRow];exact lifted os started H enc F)
theorem plain (f:FuncId) (fn:Func) (hf:Tryz.pinned.checked.prog.funcNamed "pedigree/pedigreelaw18.AdornBare" =some f) (hfn:Tryz.pinned.checked.prog.funcs[f]? =some fn):
  true=Tryz.pinned.checked.prog.looks []∧∀(j:Nat) t,fn.params[j]? =some t→Tryz.pinned.checked.prog.wantsStandIn t=false:=by
 obtain rfl:f=5:=Option.some.inj ((show Tryz.prog.funcNamed "pedigree/pedigreelaw18.AdornBare" =some 5 by kernel_rfl).symm.trans hf)|>.symm
 obtain rfl:fn=Tryz.f5:=(Option.some.inj (Tryz.func5.symm.trans hfn)).symm
 refine ⟨by kernel_rfl,fun j t ht=> ?_⟩
 rw [Tryz.params5] at ht
 match j with
 |0=>obtain rfl:52=t:=by simpa using ht
     exact (show Tryz.prog.wantsStandIn 52=false by kernel_rfl)
 |1=>obtain rfl:24=t:=by simpa using ht
     exact (show Tryz.prog.wantsStandIn 24=false by kernel_rfl)
 |j+2=>simp at ht
theorem card:Rows.AdornBareCardSaid:=
 Claim7.holds_tied_plain_at .later [] _ _ _ _ said (fun _ h=>by cases h) (by kernel_rfl) (fun _ h=>by cases h) adornBare_row_tie rfl ⟨rfl,rfl⟩ (by kernel_rfl) rfl plain (by kernel_rfl)
end
end Go.Proofs.YthhfolohakiemaaGreatDoor.adornBare
