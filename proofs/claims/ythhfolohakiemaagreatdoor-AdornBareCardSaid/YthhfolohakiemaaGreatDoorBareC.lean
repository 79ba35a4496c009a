/- What the functions of the packages term and check answer is proved for every input. -/
import Derived.Test.YthhfolohakiemaaGreatDoorBareB
set_option linter.unusedVariables false
set_option linter.unnecessarySimpa false
set_option linter.unusedSimpArgs false
namespace Go.Ped
open Go.RowKit Go.Proofs
section
variable (s:ByteArray) (t:Tm) (ts:List Tm)
abbrev Z1c0:Nat×AV:=(30,.seq (s.data.toList.map bav) false)
abbrev Z1c1:Nat×AV:=(31,.int .i64 ((s.data.toList.map bav).length:Nat))
abbrev Z1c2:Nat×AV:=(6,.bool false)
abbrev Z1cc (i:Nat):St:=⟨[Z1c0 s,Z1c1 s,(32,.int .i64 (i:Int))],[]⟩
theorem t143_0 (hs:s.data.toList.length<1000000000000000) (i:Nat) (hi:i<s.data.toList.length):En 63 (loopOf Tryz.f143 0) (Z1cc s i) (fun e t=>(e= .ret∧∃rb,t=⟨[(6,.bool rb)],[]⟩)∨(e= .normal∧t=⟨[Z1c0 s,Z1c1 s,(32,.int .i64 ((i+1:Nat):Int))],[]⟩)):=by
 obtain ⟨x0,hm0,hx0⟩:=elt_of bav (l:=(ByteArray.data s).1) (n:=(↑i:Int)) (by omega) (by omega)
 rcases bft (decide ((↑(UInt8.toNat x0):Int)<97)) with h1|h1
 ·rcases bft (decide ((↑(UInt8.toNat x0):Int)<65)) with h2|h2
  ·rcases bft (decide ((↑(UInt8.toNat x0):Int)<48)) with h3|h3
   ·rcases bft (decide ((↑(UInt8.toNat x0):Int)=95)) with h4|h4
    ·exact gE (.inr ⟨rfl,rfl⟩) 0 [.is true,.elt (.int .u8 (↑(UInt8.toNat x0):Int)),.is true,.is true,.is true,.is false] [30,31,32] [] (aC7 (d2 s i (by simp at*;omega)) hx0 h1 h2 h3 (nF h4) (w1 i (by omega)))
    ·exact ⟨Out.ret,St.mk [Z1c2] [],.inl ⟨rfl,_,rfl⟩,gA 0 [.is true,.elt (.int .u8 (↑(UInt8.toNat x0):Int)),.is true,.is true,.is true,.is true] [6] [] (by kernel_rfl) (aC6 (d2 s i (by simp at*;omega)) hx0 h1 h2 h3 (nT h4))⟩
   ·rcases bft (decide (57<(↑(UInt8.toNat x0):Int))) with h4|h4
    ·rcases bft (decide ((↑(UInt8.toNat x0):Int)=95)) with h5|h5
     ·exact gE (.inr ⟨rfl,rfl⟩) 0 [.is true,.elt (.int .u8 (↑(UInt8.toNat x0):Int)),.is true,.is true,.is false,.is true,.is false] [30,31,32] [] (aC8 (d2 s i (by simp at*;omega)) hx0 h1 h2 h3 h4 (nF h5) (w1 i (by omega)))
     ·exact ⟨Out.ret,St.mk [Z1c2] [],.inl ⟨rfl,_,rfl⟩,gA 0 [.is true,.elt (.int .u8 (↑(UInt8.toNat x0):Int)),.is true,.is true,.is false,.is true,.is true] [6] [] (by kernel_rfl) (aC7 (d2 s i (by simp at*;omega)) hx0 h1 h2 h3 h4 (nT h5))⟩
    ·exact gE (.inr ⟨rfl,rfl⟩) 0 [.is true,.elt (.int .u8 (↑(UInt8.toNat x0):Int)),.is true,.is true,.is false,.is false] [30,31,32] [] (aC7 (d2 s i (by simp at*;omega)) hx0 h1 h2 h3 h4 (w1 i (by omega)))
  ·rcases bft (decide (90<(↑(UInt8.toNat x0):Int))) with h3|h3
   ·rcases bft (decide ((↑(UInt8.toNat x0):Int)<48)) with h4|h4
    ·rcases bft (decide ((↑(UInt8.toNat x0):Int)=95)) with h5|h5
     ·exact gE (.inr ⟨rfl,rfl⟩) 0 [.is true,.elt (.int .u8 (↑(UInt8.toNat x0):Int)),.is true,.is false,.is true,.is true,.is false] [30,31,32] [] (aC8 (d2 s i (by simp at*;omega)) hx0 h1 h2 h3 h4 (nF h5) (w1 i (by omega)))
     ·exact ⟨Out.ret,St.mk [Z1c2] [],.inl ⟨rfl,_,rfl⟩,gA 0 [.is true,.elt (.int .u8 (↑(UInt8.toNat x0):Int)),.is true,.is false,.is true,.is true,.is true] [6] [] (by kernel_rfl) (aC7 (d2 s i (by simp at*;omega)) hx0 h1 h2 h3 h4 (nT h5))⟩
    ·rcases bft (decide (57<(↑(UInt8.toNat x0):Int))) with h5|h5
     ·rcases bft (decide ((↑(UInt8.toNat x0):Int)=95)) with h6|h6
      ·exact gE (.inr ⟨rfl,rfl⟩) 0 [.is true,.elt (.int .u8 (↑(UInt8.toNat x0):Int)),.is true,.is false,.is true,.is false,.is true,.is false] [30,31,32] [] (aC9 (d2 s i (by simp at*;omega)) hx0 h1 h2 h3 h4 h5 (nF h6) (w1 i (by omega)))
      ·exact ⟨Out.ret,St.mk [Z1c2] [],.inl ⟨rfl,_,rfl⟩,gA 0 [.is true,.elt (.int .u8 (↑(UInt8.toNat x0):Int)),.is true,.is false,.is true,.is false,.is true,.is true] [6] [] (by kernel_rfl) (aC8 (d2 s i (by simp at*;omega)) hx0 h1 h2 h3 h4 h5 (nT h6))⟩
     ·exact gE (.inr ⟨rfl,rfl⟩) 0 [.is true,.elt (.int .u8 (↑(UInt8.toNat x0):Int)),.is true,.is false,.is true,.is false,.is false] [30,31,32] [] (aC8 (d2 s i (by simp at*;omega)) hx0 h1 h2 h3 h4 h5 (w1 i (by omega)))
   ·exact gE (.inr ⟨rfl,rfl⟩) 0 [.is true,.elt (.int .u8 (↑(UInt8.toNat x0):Int)),.is true,.is false,.is false] [30,31,32] [] (aC6 (d2 s i (by simp at*;omega)) hx0 h1 h2 h3 (w1 i (by omega)))
 ·rcases bft (decide (122<(↑(UInt8.toNat x0):Int))) with h2|h2
  ·rcases bft (decide ((↑(UInt8.toNat x0):Int)<65)) with h3|h3
   ·rcases bft (decide ((↑(UInt8.toNat x0):Int)<48)) with h4|h4
    ·rcases bft (decide ((↑(UInt8.toNat x0):Int)=95)) with h5|h5
     ·exact gE (.inr ⟨rfl,rfl⟩) 0 [.is true,.elt (.int .u8 (↑(UInt8.toNat x0):Int)),.is false,.is true,.is true,.is true,.is false] [30,31,32] [] (aC8 (d2 s i (by simp at*;omega)) hx0 h1 h2 h3 h4 (nF h5) (w1 i (by omega)))
     ·exact ⟨Out.ret,St.mk [Z1c2] [],.inl ⟨rfl,_,rfl⟩,gA 0 [.is true,.elt (.int .u8 (↑(UInt8.toNat x0):Int)),.is false,.is true,.is true,.is true,.is true] [6] [] (by kernel_rfl) (aC7 (d2 s i (by simp at*;omega)) hx0 h1 h2 h3 h4 (nT h5))⟩
    ·rcases bft (decide (57<(↑(UInt8.toNat x0):Int))) with h5|h5
     ·rcases bft (decide ((↑(UInt8.toNat x0):Int)=95)) with h6|h6
      ·exact gE (.inr ⟨rfl,rfl⟩) 0 [.is true,.elt (.int .u8 (↑(UInt8.toNat x0):Int)),.is false,.is true,.is true,.is false,.is true,.is false] [30,31,32] [] (aC9 (d2 s i (by simp at*;omega)) hx0 h1 h2 h3 h4 h5 (nF h6) (w1 i (by omega)))
      ·exact ⟨Out.ret,St.mk [Z1c2] [],.inl ⟨rfl,_,rfl⟩,gA 0 [.is true,.elt (.int .u8 (↑(UInt8.toNat x0):Int)),.is false,.is true,.is true,.is false,.is true,.is true] [6] [] (by kernel_rfl) (aC8 (d2 s i (by simp at*;omega)) hx0 h1 h2 h3 h4 h5 (nT h6))⟩
     ·exact gE (.inr ⟨rfl,rfl⟩) 0 [.is true,.elt (.int .u8 (↑(UInt8.toNat x0):Int)),.is false,.is true,.is true,.is false,.is false] [30,31,32] [] (aC8 (d2 s i (by simp at*;omega)) hx0 h1 h2 h3 h4 h5 (w1 i (by omega)))
   ·rcases bft (decide (90<(↑(UInt8.toNat x0):Int))) with h4|h4
    ·rcases bft (decide ((↑(UInt8.toNat x0):Int)<48)) with h5|h5
     ·rcases bft (decide ((↑(UInt8.toNat x0):Int)=95)) with h6|h6
      ·exact gE (.inr ⟨rfl,rfl⟩) 0 [.is true,.elt (.int .u8 (↑(UInt8.toNat x0):Int)),.is false,.is true,.is false,.is true,.is true,.is false] [30,31,32] [] (aC9 (d2 s i (by simp at*;omega)) hx0 h1 h2 h3 h4 h5 (nF h6) (w1 i (by omega)))
      ·exact ⟨Out.ret,St.mk [Z1c2] [],.inl ⟨rfl,_,rfl⟩,gA 0 [.is true,.elt (.int .u8 (↑(UInt8.toNat x0):Int)),.is false,.is true,.is false,.is true,.is true,.is true] [6] [] (by kernel_rfl) (aC8 (d2 s i (by simp at*;omega)) hx0 h1 h2 h3 h4 h5 (nT h6))⟩
     ·rcases bft (decide (57<(↑(UInt8.toNat x0):Int))) with h6|h6
      ·rcases bft (decide ((↑(UInt8.toNat x0):Int)=95)) with h7|h7
       ·exact gE (.inr ⟨rfl,rfl⟩) 0 [.is true,.elt (.int .u8 (↑(UInt8.toNat x0):Int)),.is false,.is true,.is false,.is true,.is false,.is true,.is false] [30,31,32] [] (aC10 (d2 s i (by simp at*;omega)) hx0 h1 h2 h3 h4 h5 h6 (nF h7) (w1 i (by omega)))
       ·exact ⟨Out.ret,St.mk [Z1c2] [],.inl ⟨rfl,_,rfl⟩,gA 0 [.is true,.elt (.int .u8 (↑(UInt8.toNat x0):Int)),.is false,.is true,.is false,.is true,.is false,.is true,.is true] [6] [] (by kernel_rfl) (aC9 (d2 s i (by simp at*;omega)) hx0 h1 h2 h3 h4 h5 h6 (nT h7))⟩
      ·exact gE (.inr ⟨rfl,rfl⟩) 0 [.is true,.elt (.int .u8 (↑(UInt8.toNat x0):Int)),.is false,.is true,.is false,.is true,.is false,.is false] [30,31,32] [] (aC9 (d2 s i (by simp at*;omega)) hx0 h1 h2 h3 h4 h5 h6 (w1 i (by omega)))
    ·exact gE (.inr ⟨rfl,rfl⟩) 0 [.is true,.elt (.int .u8 (↑(UInt8.toNat x0):Int)),.is false,.is true,.is false,.is false] [30,31,32] [] (aC7 (d2 s i (by simp at*;omega)) hx0 h1 h2 h3 h4 (w1 i (by omega)))
  ·exact gE (.inr ⟨rfl,rfl⟩) 0 [.is true,.elt (.int .u8 (↑(UInt8.toNat x0):Int)),.is false,.is false] [30,31,32] [] (aC5 (d2 s i (by simp at*;omega)) hx0 h1 h2 (w1 i (by omega)))
theorem e143_0 (hs:s.data.toList.length<1000000000000000):En 63 (loopOf Tryz.f143 0) ⟨[Z1c0 s,Z1c1 s,(32,.int .i64 ((s.data.toList.length:Nat):Int))],[]⟩ (fun e t=>e= .exit 0∧t=⟨[],[]⟩):=by
 exact gE ⟨rfl,rfl⟩ 0 [.is false] [] [] (aC1 (show decide ((↑(List.length (Array.toList (ByteArray.data s))):Int)<(↑(List.length (List.map bav (Array.toList (ByteArray.data s)))):Int))=false from by simp))
abbrev Z1cd:St:=⟨[Z1c0 s,Z1c1 s,(32,.int .i64 0)],[]⟩
theorem l143_0 (hs:s.data.toList.length<1000000000000000):(∃rb,Lo 63 (loopOf Tryz.f143 0) (Z1cd s) .ret ⟨[(6,.bool rb)],[]⟩)∨Lo 63 (loopOf Tryz.f143 0) (Z1cd s) (.exit 0) ⟨[],[]⟩:=by
 rcases range_ex (N:=s.data.toList.length) (k:=0) (fun i=>⟨[Z1c0 s,Z1c1 s,(32,.int .i64 (i:Int))],[]⟩) ⟨[],[]⟩ (fun t=>∃rb,t=⟨[(6,.bool rb)],[]⟩) (fun i hi=>t143_0 s hs i hi) (e143_0 s hs) with ⟨s,h,hq⟩|h
 ·obtain ⟨rb,rfl⟩:=hq;exact .inl ⟨rb,h⟩
 ·exact .inr h
abbrev Z1c3:Nat×AV:=(2,.int .i64 0)
abbrev Z1c4:Nat×AV:=(2,.int .i64 10)
theorem b177 (k n:Int) (s:ByteArray):En 21 (bodyOf Tryz.f177) ⟨[(0,.agg [.int .i8 k,.int .i64 n,.str s])],[]⟩ (fun e t=>e= .ret∧∃rn,t=⟨[(2,.int .i64 rn)],[]⟩):=by
 rcases bft (decide (k=1)) with h0|h0
 ·rcases bft (decide (s=ByteArray.mk #[])) with h1|h1
  ·exact ⟨Out.ret,St.mk [Z1c3] [],⟨rfl,_,rfl⟩,gA 0 [.is true,.is true] [2] [] (by kernel_rfl) (aC2 h0 h1)⟩
  ·exact ⟨Out.ret,St.mk [Z1c4] [],⟨rfl,_,rfl⟩,gA 0 [.is true,.is false] [2] [] (by kernel_rfl) (aC2 h0 h1)⟩
 ·rcases bft (decide (k=2)) with h1|h1
  ·rcases bft (decide (n=0)) with h2|h2
   ·rcases bft (decide ((↑(ByteArray.size s):Int)≤200)) with h3|h3
    ·exact ⟨Out.ret,St.mk [Z1c3] [],⟨rfl,_,rfl⟩,gA 0 [.is false,.is true,.is true,.is true] [2] [] (by kernel_rfl) (aC4 h0 h1 h2 h3)⟩
    ·exact ⟨Out.ret,St.mk [Z1c4] [],⟨rfl,_,rfl⟩,gA 0 [.is false,.is true,.is true,.is false] [2] [] (by kernel_rfl) (aC4 h0 h1 h2 h3)⟩
   ·exact ⟨Out.ret,St.mk [Z1c4] [],⟨rfl,_,rfl⟩,gA 0 [.is false,.is true,.is false] [2] [] (by kernel_rfl) (aC3 h0 h1 h2)⟩
  ·exact ⟨Out.ret,St.mk [Z1c4] [],⟨rfl,_,rfl⟩,gA 0 [.is false,.is false] [2] [] (by kernel_rfl) (aC2 h0 h1)⟩
theorem k177 (k n:Int) (s:ByteArray):∃rn,Sp 177 [.agg [.int .i8 k,.int .i64 n,.str s]] [] (.int .i64 rn) []:=by
 obtain ⟨e,t,⟨rfl,rn,rfl⟩,h⟩:=b177 k n s
 exact ⟨rn,sP Tryz.f177 (by first|rfl|simp [noIdsL,noIds]) h (.inr rfl)⟩
abbrev Z1c5:Nat×AV:=(2,.bool true)
abbrev Z1c6:Nat×AV:=(2,.bool false)
abbrev Z1ce:St:=⟨[(0,t.av)],[]⟩
theorem b145 (t:Tm):En 6 (bodyOf Tryz.f145) (Z1ce t) (fun e t=>e= .ret∧∃rb,t=⟨[(2,.bool rb)],[]⟩):=by
 rcases bft (match decide (Tm.v t=ByteArray.mk #[]) with|false=>false|true=>decide (Tm.k t=0)&&(decide (Tm.n t=0)&&(decide (Tm.s t=ByteArray.mk #[])&&true))&&true) with h0|h0
 ·exact ⟨Out.ret,St.mk [Z1c5] [],⟨rfl,_,rfl⟩,gA 0 [.is true] [2] [] (by kernel_rfl) (aC1 h0)⟩
 ·exact ⟨Out.ret,St.mk [Z1c6] [],⟨rfl,_,rfl⟩,gA 0 [.is false] [2] [] (by kernel_rfl) (aC1 h0)⟩
theorem k145:∃rb,Sp 145 [t.av] [] (.bool rb) []:=by
 obtain ⟨e,t,⟨rfl,rb,rfl⟩,h⟩:=b145 t
 exact ⟨rb,sP Tryz.f145 (by first|rfl|simp [noIdsL,noIds]) h (.inr rfl)⟩
theorem b90t:En 4 (bodyOf Tryz.f90) ⟨[(0,.bool true)],[]⟩ (fun e t=>e= .ret∧t=⟨[Z1c3],[]⟩):=by
 exact ⟨Out.ret,St.mk [Z1c3] [],⟨rfl,rfl⟩,gA 0 [] [2] [] (by kernel_rfl) (aN)⟩
abbrev Z1c7:Nat×AV:=(2,.int .i64 40)
theorem b90f:En 4 (bodyOf Tryz.f90) ⟨[(0,.bool false)],[]⟩ (fun e t=>e= .ret∧t=⟨[Z1c7],[]⟩):=by
 exact ⟨Out.ret,St.mk [Z1c7] [],⟨rfl,rfl⟩,gA 0 [] [2] [] (by kernel_rfl) (aN)⟩
theorem k90 (b:Bool):Sp 90 [.bool b] [] (.int .i64 (if b then 0 else 40)) []:=by
 cases b with
 |true=>
  obtain ⟨e,t,⟨rfl,rfl⟩,h⟩:=b90t
  exact sQ Tryz.f90 h
 |false=>
  obtain ⟨e,t,⟨rfl,rfl⟩,h⟩:=b90f
  exact sQ Tryz.f90 h
abbrev Z1c8:Nat×AV:=(2,.int .i64 1)
abbrev Z1c9:Nat×AV:=(2,.int .i64 2)
theorem b226 (op:Int):En 16 (bodyOf Tryz.f226) ⟨[(0,.int .i8 op)],[]⟩ (fun e t=>e= .ret∧∃rn,t=⟨[(2,.int .i64 rn)],[]⟩):=by
 rcases bft (decide (op=1)) with h0|h0
 ·exact ⟨Out.ret,St.mk [Z1c8] [],⟨rfl,_,rfl⟩,gA 0 [.is true] [2] [] (by kernel_rfl) (aC1 h0)⟩
 ·rcases bft (decide (op=8)) with h1|h1
  ·exact ⟨Out.ret,St.mk [Z1c8] [],⟨rfl,_,rfl⟩,gA 0 [.is false,.is true] [2] [] (by kernel_rfl) (aC2 h0 h1)⟩
  ·rcases bft (decide (op=9)) with h2|h2
   ·exact ⟨Out.ret,St.mk [Z1c8] [],⟨rfl,_,rfl⟩,gA 0 [.is false,.is false,.is true] [2] [] (by kernel_rfl) (aC3 h0 h1 h2)⟩
   ·rcases bft (decide (op=10)) with h3|h3
    ·exact ⟨Out.ret,St.mk [Z1c8] [],⟨rfl,_,rfl⟩,gA 0 [.is false,.is false,.is false,.is true] [2] [] (by kernel_rfl) (aC4 h0 h1 h2 h3)⟩
    ·rcases bft (decide (op=2)) with h4|h4
     ·exact ⟨Out.ret,St.mk [Z1c9] [],⟨rfl,_,rfl⟩,gA 0 [.is false,.is false,.is false,.is false,.is true] [2] [] (by kernel_rfl) (aC5 h0 h1 h2 h3 h4)⟩
     ·rcases bft (decide (op=3)) with h5|h5
      ·exact ⟨Out.ret,St.mk [Z1c9] [],⟨rfl,_,rfl⟩,gA 0 [.is false,.is false,.is false,.is false,.is false,.is true] [2] [] (by kernel_rfl) (aC6 h0 h1 h2 h3 h4 h5)⟩
      ·rcases bft (decide (op=4)) with h6|h6
       ·exact ⟨Out.ret,St.mk [Z1c9] [],⟨rfl,_,rfl⟩,gA 0 [.is false,.is false,.is false,.is false,.is false,.is false,.is true] [2] [] (by kernel_rfl) (aC7 h0 h1 h2 h3 h4 h5 h6)⟩
       ·rcases bft (decide (op=5)) with h7|h7
        ·exact ⟨Out.ret,St.mk [Z1c9] [],⟨rfl,_,rfl⟩,gA 0 [.is false,.is false,.is false,.is false,.is false,.is false,.is false,.is true] [2] [] (by kernel_rfl) (aC8 h0 h1 h2 h3 h4 h5 h6 h7)⟩
        ·rcases bft (decide (op=6)) with h8|h8
         ·exact ⟨Out.ret,St.mk [Z1c9] [],⟨rfl,_,rfl⟩,gA 0 [.is false,.is false,.is false,.is false,.is false,.is false,.is false,.is false,.is true] [2] [] (by kernel_rfl) (aC9 h0 h1 h2 h3 h4 h5 h6 h7 h8)⟩
         ·rcases bft (decide (op=7)) with h9|h9
          ·exact ⟨Out.ret,St.mk [Z1c9] [],⟨rfl,_,rfl⟩,gA 0 [.is false,.is false,.is false,.is false,.is false,.is false,.is false,.is false,.is false,.is true] [2] [] (by kernel_rfl) (aC10 h0 h1 h2 h3 h4 h5 h6 h7 h8 h9)⟩
          ·exact ⟨Out.ret,St.mk [(2,.int .i64 (-1))] [],⟨rfl,_,rfl⟩,gA 0 [.is false,.is false,.is false,.is false,.is false,.is false,.is false,.is false,.is false,.is false] [2] [] (by kernel_rfl) (aC10 h0 h1 h2 h3 h4 h5 h6 h7 h8 h9)⟩
theorem k226 (op:Int):∃rn,Sp 226 [.int .i8 op] [] (.int .i64 rn) []:=by
 obtain ⟨e,t,⟨rfl,rn,rfl⟩,h⟩:=b226 op
 exact ⟨rn,sP Tryz.f226 (by first|rfl|simp [noIdsL,noIds]) h (.inr rfl)⟩
theorem b143 (a b:Int):En 63 (bodyOf Tryz.f143) ⟨[(0,.str s),(1,.int .u8 a),(2,.int .u8 b)],[]⟩ (fun e t=>e= .ret∧∃rb,t=⟨[(6,.bool rb)],[]⟩):=by
 rcases bft (decide ((↑(ByteArray.size s):Int)=0)) with h0|h0
 ·exact ⟨Out.ret,St.mk [Z1c2] [],⟨rfl,_,rfl⟩,gA 0 [.is true] [6] [] (by kernel_rfl) (aC1 h0)⟩
 ·rcases bft (decide (120<(↑(ByteArray.size s):Int))) with h1|h1
  ·exact ⟨Out.ret,St.mk [Z1c2] [],⟨rfl,_,rfl⟩,gA 0 [.is false,.is true] [6] [] (by kernel_rfl) (aC2 h0 h1)⟩
  ·obtain ⟨x2,hx2⟩:=byte_of (s:=s) (n:=0) (by omega) (by have:=of_decide_eq_false h1;have:=of_decide_eq_false h0;omega)
   rcases bft (decide ((↑(UInt8.toNat x2):Int)<a)) with h3|h3
   ·exact ⟨Out.ret,St.mk [Z1c2] [],⟨rfl,_,rfl⟩,gA 0 [.is false,.is false,.elt (.int .u8 (↑(UInt8.toNat x2):Int)),.is true] [6] [] (by kernel_rfl) (aC4 h0 h1 hx2 h3)⟩
   ·rcases bft (decide (b<(↑(UInt8.toNat x2):Int))) with h4|h4
    ·exact ⟨Out.ret,St.mk [Z1c2] [],⟨rfl,_,rfl⟩,gA 0 [.is false,.is false,.elt (.int .u8 (↑(UInt8.toNat x2):Int)),.is false,.elt (.int .u8 (↑(UInt8.toNat x2):Int)),.is true] [6] [] (by kernel_rfl) (aC6 h0 h1 hx2 h3 hx2 h4)⟩
    ·rcases l143_0 (s) (by have:=of_decide_eq_false h4;have:=of_decide_eq_false h3;have:=of_decide_eq_false h1;have:=of_decide_eq_false h0;simp;omega) with o5|o5
     ·obtain ⟨y6,hl7⟩:=o5
      exact ⟨Out.ret,St.mk [(6,.bool y6)] [],⟨rfl,_,rfl⟩,gA 0 [.is false,.is false,.elt (.int .u8 (↑(UInt8.toNat x2):Int)),.is false,.elt (.int .u8 (↑(UInt8.toNat x2):Int)),.is false,.cut [30,31,32] [],.sum .ret [(6,.bool y6)] []] [6] [] (by kernel_rfl) (aC8 h0 h1 hx2 h3 hx2 h4 (show ByteArray.size s≤9223372036854775807 from by simp at*;omega) hl7)⟩
     ·have hl6:=o5
      exact ⟨Out.ret,St.mk [(6,.bool true)] [],⟨rfl,_,rfl⟩,gA 0 [.is false,.is false,.elt (.int .u8 (↑(UInt8.toNat x2):Int)),.is false,.elt (.int .u8 (↑(UInt8.toNat x2):Int)),.is false,.cut [30,31,32] [],.sum (.exit 0) [] []] [6] [] (by kernel_rfl) (aC8 h0 h1 hx2 h3 hx2 h4 (show ByteArray.size s≤9223372036854775807 from by simp at*;omega) hl6)⟩
theorem k143 (a b:Int):∃rb,Sp 143 [.str s,.int .u8 a,.int .u8 b] [] (.bool rb) []:=by
 obtain ⟨e,t,⟨rfl,rb,rfl⟩,h⟩:=b143 s a b
 exact ⟨rb,sP Tryz.f143 (by first|rfl|simp [noIdsL,noIds]) h (.inr rfl)⟩
theorem b125 (t:Tm):En 26 (bodyOf Tryz.f125) (Z1ce t) (fun e t=>e= .ret∧∃rn,t=⟨[(2,.int .i64 rn)],[]⟩):=by
 rcases bft (decide (Tm.v t=ByteArray.mk #[])) with h0|h0
 ·obtain ⟨r1,hs2⟩:=k177 t.2 t.3 t.4
  rcases bft (decide (r1=0)) with h3|h3
  ·have hs4:=k90 true
   exact ⟨Out.ret,St.mk [Z1c3] [],⟨rfl,_,rfl⟩,gA 0 [.is true,.call (.int .i64 r1) [] [],.is true,.call (.int .i64 0) [] []] [2] [] (by kernel_rfl) (aC4 h0 hs2 h3 hs4)⟩
  ·have hs4:=k90 false
   exact ⟨Out.ret,St.mk [Z1c7] [],⟨rfl,_,rfl⟩,gA 0 [.is true,.call (.int .i64 r1) [] [],.is false,.call (.int .i64 40) [] []] [2] [] (by kernel_rfl) (aC4 h0 hs2 h3 hs4)⟩
 ·rcases bft (match decide (Tm.k t=0) with|false=>false|true=>decide (Tm.n t=0)&&(decide (Tm.s t=ByteArray.mk #[])&&true)) with h1|h1
  ·rcases bft (decide (Tm.v t=ByteArray.mk #[95])) with h2|h2
   ·have hs3:=k90 true
    exact ⟨Out.ret,St.mk [Z1c3] [],⟨rfl,_,rfl⟩,gA 0 [.is false,.is true,.is true,.call (.int .i64 0) [] []] [2] [] (by kernel_rfl) (aC4 h0 h1 h2 hs3)⟩
   ·obtain ⟨r3,hs4⟩:=k143 t.1 65 90
    cases r3 with
    |true=>
     have hs5:=k90 true
     exact ⟨Out.ret,St.mk [Z1c3] [],⟨rfl,_,rfl⟩,gA 0 [.is false,.is true,.is false,.call (.bool true) [] [],.call (.int .i64 0) [] []] [2] [] (by kernel_rfl) (aC5 h0 h1 h2 hs4 hs5)⟩
    |false=>
     have hs5:=k90 false
     exact ⟨Out.ret,St.mk [Z1c7] [],⟨rfl,_,rfl⟩,gA 0 [.is false,.is true,.is false,.call (.bool false) [] [],.call (.int .i64 40) [] []] [2] [] (by kernel_rfl) (aC5 h0 h1 h2 hs4 hs5)⟩
  ·have hs2:=k90 false
   exact ⟨Out.ret,St.mk [Z1c7] [],⟨rfl,_,rfl⟩,gA 0 [.is false,.is false,.call (.int .i64 40) [] []] [2] [] (by kernel_rfl) (aC3 h0 h1 hs2)⟩
theorem k125:∃rn,Sp 125 [t.av] [] (.int .i64 rn) []:=by
 obtain ⟨e,t,⟨rfl,rn,rfl⟩,h⟩:=b125 t
 exact ⟨rn,sP Tryz.f125 (by first|rfl|simp [noIdsL,noIds]) h (.inr rfl)⟩
theorem b144 (t:Tm):En 11 (bodyOf Tryz.f144) (Z1ce t) (fun e t=>e= .ret∧∃rb,t=⟨[(2,.bool rb)],[]⟩):=by
 rcases bft (decide (Tm.v t=ByteArray.mk #[95])) with h0|h0
 ·exact ⟨Out.ret,St.mk [Z1c6] [],⟨rfl,_,rfl⟩,gA 0 [.is false] [2] [] (by kernel_rfl) (aC1 (nF h0))⟩
 ·obtain ⟨r1,hs2⟩:=k125 t
  rcases bft (decide (r1=0)) with h3|h3
  ·exact ⟨Out.ret,St.mk [Z1c5] [],⟨rfl,_,rfl⟩,gA 0 [.is true,.call (.int .i64 r1) [] [],.is true] [2] [] (by kernel_rfl) (aC3 (nT h0) hs2 h3)⟩
  ·exact ⟨Out.ret,St.mk [Z1c6] [],⟨rfl,_,rfl⟩,gA 0 [.is true,.call (.int .i64 r1) [] [],.is false] [2] [] (by kernel_rfl) (aC3 (nT h0) hs2 h3)⟩
theorem k144:∃rb,Sp 144 [t.av] [] (.bool rb) []:=by
 obtain ⟨e,t,⟨rfl,rb,rfl⟩,h⟩:=b144 t
 exact ⟨rb,sP Tryz.f144 (by first|rfl|simp [noIdsL,noIds]) h (.inr rfl)⟩
theorem b124 (t:Tm):En 6 (bodyOf Tryz.f124) (Z1ce t) (fun e t=>e= .ret∧∃rb,t=⟨[(2,.bool rb)],[]⟩):=by
 obtain ⟨r0,hs1⟩:=k125 t
 rcases bft (decide (r0=0)) with h2|h2
 ·exact ⟨Out.ret,St.mk [Z1c6] [],⟨rfl,_,rfl⟩,gA 0 [.call (.int .i64 r0) [] [],.is false] [2] [] (by kernel_rfl) (aC2 hs1 (nF h2))⟩
 ·exact ⟨Out.ret,St.mk [Z1c5] [],⟨rfl,_,rfl⟩,gA 0 [.call (.int .i64 r0) [] [],.is true] [2] [] (by kernel_rfl) (aC2 hs1 (nT h2))⟩
theorem k124:∃rb,Sp 124 [t.av] [] (.bool rb) []:=by
 obtain ⟨e,t,⟨rfl,rb,rfl⟩,h⟩:=b124 t
 exact ⟨rb,sP Tryz.f124 (by first|rfl|simp [noIdsL,noIds]) h (.inr rfl)⟩
theorem b88 (a:Ar):En 28 (bodyOf Tryz.f88) ⟨[(0,a.av)],[]⟩ (fun e t=>e= .ret∧∃rb,t=⟨[(2,.bool rb)],[]⟩):=by
 rcases bft (decide (Ar.g a=0)) with h0|h0
 ·obtain ⟨r1,hs2⟩:=k144 (Ar.t a)
  cases r1 with
  |true=>
   exact ⟨Out.ret,St.mk [Z1c5] [],⟨rfl,_,rfl⟩,gA 0 [.is true,.call (.bool true) [] []] [2] [] (by kernel_rfl) (aC2 h0 hs2)⟩
  |false=>
   exact ⟨Out.ret,St.mk [Z1c6] [],⟨rfl,_,rfl⟩,gA 0 [.is true,.call (.bool false) [] []] [2] [] (by kernel_rfl) (aC2 h0 hs2)⟩
 ·rcases bft (decide (Ar.g a=1)) with h1|h1
  ·obtain ⟨r2,hs3⟩:=k145 (Ar.t a)
   cases r2 with
   |true=>
    exact ⟨Out.ret,St.mk [Z1c5] [],⟨rfl,_,rfl⟩,gA 0 [.is false,.is true,.call (.bool true) [] []] [2] [] (by kernel_rfl) (aC3 h0 h1 hs3)⟩
   |false=>
    exact ⟨Out.ret,St.mk [Z1c6] [],⟨rfl,_,rfl⟩,gA 0 [.is false,.is true,.call (.bool false) [] []] [2] [] (by kernel_rfl) (aC3 h0 h1 hs3)⟩
  ·rcases bft (decide (Ar.g a=2)) with h2|h2
   ·rcases bft (decide (Tm.v (Ar.t a)=ByteArray.mk #[])) with h3|h3
    ·exact ⟨Out.ret,St.mk [Z1c6] [],⟨rfl,_,rfl⟩,gA 0 [.is false,.is false,.is true,.is false] [2] [] (by kernel_rfl) (aC4 h0 h1 h2 (nF h3))⟩
    ·obtain ⟨r4,hs5⟩:=k144 (Ar.t a)
     cases r4 with
     |true=>
      exact ⟨Out.ret,St.mk [Z1c5] [],⟨rfl,_,rfl⟩,gA 0 [.is false,.is false,.is true,.is true,.call (.bool true) [] []] [2] [] (by kernel_rfl) (aC5 h0 h1 h2 (nT h3) hs5)⟩
     |false=>
      exact ⟨Out.ret,St.mk [Z1c6] [],⟨rfl,_,rfl⟩,gA 0 [.is false,.is false,.is true,.is true,.call (.bool false) [] []] [2] [] (by kernel_rfl) (aC5 h0 h1 h2 (nT h3) hs5)⟩
   ·rcases bft (decide (Ar.g a=3)) with h3|h3
    ·rcases bft (decide (Tm.v (Ar.t a)=ByteArray.mk #[])) with h4|h4
     ·exact ⟨Out.ret,St.mk [Z1c6] [],⟨rfl,_,rfl⟩,gA 0 [.is false,.is false,.is false,.is true,.is false] [2] [] (by kernel_rfl) (aC5 h0 h1 h2 h3 (nF h4))⟩
     ·obtain ⟨r5,hs6⟩:=k144 (Ar.t a)
      cases r5 with
      |true=>
       exact ⟨Out.ret,St.mk [Z1c5] [],⟨rfl,_,rfl⟩,gA 0 [.is false,.is false,.is false,.is true,.is true,.call (.bool true) [] []] [2] [] (by kernel_rfl) (aC6 h0 h1 h2 h3 (nT h4) hs6)⟩
      |false=>
       exact ⟨Out.ret,St.mk [Z1c6] [],⟨rfl,_,rfl⟩,gA 0 [.is false,.is false,.is false,.is true,.is true,.call (.bool false) [] []] [2] [] (by kernel_rfl) (aC6 h0 h1 h2 h3 (nT h4) hs6)⟩
    ·rcases bft (decide (Ar.g a=4)) with h4|h4
     ·rcases bft (decide (Tm.v (Ar.t a)=ByteArray.mk #[])) with h5|h5
      ·exact ⟨Out.ret,St.mk [Z1c6] [],⟨rfl,_,rfl⟩,gA 0 [.is false,.is false,.is false,.is false,.is true,.is false] [2] [] (by kernel_rfl) (aC6 h0 h1 h2 h3 h4 (nF h5))⟩
      ·obtain ⟨r6,hs7⟩:=k144 (Ar.t a)
       cases r6 with
       |true=>
        exact ⟨Out.ret,St.mk [Z1c5] [],⟨rfl,_,rfl⟩,gA 0 [.is false,.is false,.is false,.is false,.is true,.is true,.call (.bool true) [] []] [2] [] (by kernel_rfl) (aC7 h0 h1 h2 h3 h4 (nT h5) hs7)⟩
       |false=>
        exact ⟨Out.ret,St.mk [Z1c6] [],⟨rfl,_,rfl⟩,gA 0 [.is false,.is false,.is false,.is false,.is true,.is true,.call (.bool false) [] []] [2] [] (by kernel_rfl) (aC7 h0 h1 h2 h3 h4 (nT h5) hs7)⟩
     ·exact ⟨Out.ret,St.mk [Z1c6] [],⟨rfl,_,rfl⟩,gA 0 [.is false,.is false,.is false,.is false,.is false] [2] [] (by kernel_rfl) (aC5 h0 h1 h2 h3 h4)⟩
theorem k88 (a:Ar):∃rb,Sp 88 [a.av] [] (.bool rb) []:=by
 obtain ⟨e,t,⟨rfl,rb,rfl⟩,h⟩:=b88 a
 exact ⟨rb,sP Tryz.f88 (by first|rfl|simp [noIdsL,noIds]) h (.inr rfl)⟩
abbrev Z1ca:Nat×AV:=(0,.seq (ts.map Tm.av) false)
abbrev Z1cb:Nat×AV:=(7,.int .i64 ((ts.map Tm.av).length:Nat))
abbrev Z1cf (i:Nat):St:=⟨[Z1ca ts,(1,.clo 124 [] []),Z1cb ts,(8,.int .i64 (i:Int))],[]⟩
theorem t178_0 (hsm:ts.length≤9223372036854775807) (i:Nat) (hi:i<ts.length):En 19 (loopOf Tryz.f178 0) (Z1cf ts i) (fun e t=>(e= .ret∧∃rn,t=⟨[(4,.int .i64 rn)],[]⟩)∨(e= .normal∧t=⟨[Z1ca ts,(1,.clo 124 [] []),Z1cb ts,(8,.int .i64 ((i+1:Nat):Int))],[]⟩)):=by
 obtain ⟨x0,hm0,hx0⟩:=elt_of Tm.av (l:=ts) (n:=(↑i:Int)) (by omega) (by omega)
 obtain ⟨r1,hs2⟩:=k124 x0
 cases r1 with
 |true=>
  exact ⟨Out.ret,St.mk [(4,.int .i64 (i:Int))] [],.inl ⟨rfl,_,rfl⟩,gA 0 [.is true,.elt (.agg [.str x0.1,.int .i8 x0.2,.int .i64 x0.3,.str x0.4]),.call (.bool true) [] []] [4] [] (by kernel_rfl) (aC3 (d1 Tm.av ts i (by omega)) hx0 hs2)⟩
 |false=>
  exact gE (.inr ⟨rfl,rfl⟩) 0 [.is true,.elt (.agg [.str x0.1,.int .i8 x0.2,.int .i64 x0.3,.str x0.4]),.call (.bool false) [] []] [0,1,7,8] [] (aC4 (d1 Tm.av ts i (by omega)) hx0 hs2 (w1 i (by omega)))
theorem zs0bgs (ts:List Tm):decide ((↑ts.length:Int)<(↑(ts.map Tm.av).length:Int))=false:=by simp
theorem e178_0 (hsm:ts.length≤9223372036854775807):En 19 (loopOf Tryz.f178 0) ⟨[Z1ca ts,(1,.clo 124 [] []),Z1cb ts,(8,.int .i64 ((ts.length:Nat):Int))],[]⟩ (fun e t=>e= .exit 0∧t=⟨[],[]⟩):=by
 exact gE ⟨rfl,rfl⟩ 0 [.is false] [] [] (aC1 (zs0bgs ts))
abbrev Z1cg:St:=⟨[Z1ca ts,(1,.clo 124 [] []),Z1cb ts,(8,.int .i64 0)],[]⟩
theorem l178_0 (hsm:ts.length≤9223372036854775807):(∃rn,Lo 19 (loopOf Tryz.f178 0) (Z1cg ts) .ret ⟨[(4,.int .i64 rn)],[]⟩)∨Lo 19 (loopOf Tryz.f178 0) (Z1cg ts) (.exit 0) ⟨[],[]⟩:=by
 rcases range_ex (N:=ts.length) (k:=0) (fun i=>⟨[Z1ca ts,(1,.clo 124 [] []),Z1cb ts,(8,.int .i64 (i:Int))],[]⟩) ⟨[],[]⟩ (fun t=>∃rn,t=⟨[(4,.int .i64 rn)],[]⟩) (fun i hi=>t178_0 ts hsm i hi) (e178_0 ts hsm) with ⟨s,h,hq⟩|h
 ·obtain ⟨rn,rfl⟩:=hq;exact .inl ⟨rn,h⟩
 ·exact .inr h
abbrev Z1ch:St:=⟨[Z1ca ts,(1,.clo 124 [] [])],[]⟩
theorem b178 (hsm:List.length (ts.map Tm.av)≤9223372036854775807):En 19 (bodyOf Tryz.f178) (Z1ch ts) (fun e t=>e= .ret∧∃rn,t=⟨[(4,.int .i64 rn)],[]⟩):=by
 rcases l178_0 (ts) (by simp at*;omega) with o0|o0
 ·obtain ⟨y1,hl2⟩:=o0
  exact ⟨Out.ret,St.mk [(4,.int .i64 y1)] [],⟨rfl,_,rfl⟩,gA 0 [.cut [0,1,7,8] [],.sum .ret [(4,.int .i64 y1)] []] [4] [] (by kernel_rfl) (aC1 hl2)⟩
 ·have hl1:=o0
  exact ⟨Out.ret,St.mk [(4,.int .i64 (-1))] [],⟨rfl,_,rfl⟩,gA 0 [.cut [0,1,7,8] [],.sum (.exit 0) [] []] [4] [] (by kernel_rfl) (aC1 hl1)⟩
theorem k178:∃rn,Sp 178 [.seq (ts.map Tm.av) false,.clo 124 [] []] [] (.int .i64 rn) []:=by
 refine ex_small (R:=fun rn=> .int .i64 rn) (upd:=fun _=>[]) (ts.map Tm.av) ⟨_,by simp,false,.inl rfl⟩ fun hsm=> ?_
 obtain ⟨e,t,⟨rfl,rn,rfl⟩,h⟩:=b178 ts (Nat.le_trans hsm (by simp [maxLen]))
 exact ⟨rn,sP Tryz.f178 (by first|rfl|simp [noIdsL,noIds]) h (.inr rfl)⟩
theorem b123:En 9 (bodyOf Tryz.f123) (Z1ch ts) (fun e t=>e= .ret∧∃rb,t=⟨[(4,.bool rb)],[]⟩):=by
 obtain ⟨r0,hs1⟩:=k178 ts
 rcases bft (decide (0≤r0)) with h2|h2
 ·exact ⟨Out.ret,St.mk [(4,.bool true)] [],⟨rfl,_,rfl⟩,gA 0 [.call (.int .i64 r0) [] [],.is true] [4] [] (by kernel_rfl) (aC2 hs1 h2)⟩
 ·exact ⟨Out.ret,St.mk [(4,.bool false)] [],⟨rfl,_,rfl⟩,gA 0 [.call (.int .i64 r0) [] [],.is false] [4] [] (by kernel_rfl) (aC2 hs1 h2)⟩
theorem k123:∃rb,Sp 123 [.seq (ts.map Tm.av) false,.clo 124 [] []] [] (.bool rb) []:=by
 obtain ⟨e,t,⟨rfl,rb,rfl⟩,h⟩:=b123 ts
 exact ⟨rb,sP Tryz.f123 (by first|rfl|simp [noIdsL,noIds]) h (.inr rfl)⟩
end
section
variable (ks:List Ex) (x:Ex) (left:Int)
abbrev Z1d0:Nat×Ob:=(100000,.var [.int .i64 left])
abbrev Z1d1:Nat×AV:=(0,.seq (ks.map Ex.av) false)
abbrev Z1d2:Nat×AV:=(7,.int .i64 ((ks.map Ex.av).length:Nat))
abbrev Z1d4 (i:Nat):St:=⟨[Z1d1 ks,(1,.clo 228 [] [.elt 100000 0 0]),Z1d2 ks,(8,.int .i64 (i:Int))],[Z1d0 left]⟩
theorem t265_0 (hsm:ks.length≤9223372036854775807) (k228:∀(x:Ex),x∈ks→∃rb,Sp 228 [.agg x.cells,.elt 100000 0 0] [Z1d0 left] (.bool rb) []) (i:Nat) (hi:i<ks.length):En 19 (loopOf Tryz.f265 0) (Z1d4 ks left i) (fun e t=>(e= .ret∧∃rn,t=⟨[(4,.int .i64 rn)],[Z1d0 left]⟩)∨(e= .normal∧t=⟨[Z1d1 ks,(1,.clo 228 [] [.elt 100000 0 0]),Z1d2 ks,(8,.int .i64 ((i+1:Nat):Int))],[Z1d0 left]⟩)):=by
 obtain ⟨x0,hm0,hx0⟩:=elt_ex (l:=ks) (n:=(↑i:Int)) (by omega) (by omega)
 obtain ⟨r1,hs2⟩:=k228 x0 (List.mem_of_getElem? (by assumption))
 cases r1 with
 |true=>
  exact ⟨Out.ret,St.mk [(4,.int .i64 (i:Int))] [Z1d0 left],.inl ⟨rfl,_,rfl⟩,gA 0 [.is true,.elt (.agg x0.cells),.call (.bool true) [100000] []] [4] [K1 100000] (by kernel_rfl) (aC4 (d1 Ex.av ks i (by omega)) hx0 hs2 rT)⟩
 |false=>
  exact gE (.inr ⟨rfl,rfl⟩) 0 [.is true,.elt (.agg x0.cells),.call (.bool false) [100000] []] [0,1,7,8] [K1 100000] (aC5 (d1 Ex.av ks i (by omega)) hx0 hs2 (w1 i (by omega)) rT)
theorem zs84ca (ks:List Ex):decide ((↑ks.length:Int)<(↑(ks.map Ex.av).length:Int))=false:=by simp
theorem e265_0 (hsm:ks.length≤9223372036854775807) (k228:∀(x:Ex),x∈ks→∃rb,Sp 228 [.agg x.cells,.elt 100000 0 0] [Z1d0 left] (.bool rb) []):En 19 (loopOf Tryz.f265 0) ⟨[Z1d1 ks,(1,.clo 228 [] [.elt 100000 0 0]),Z1d2 ks,(8,.int .i64 ((ks.length:Nat):Int))],[Z1d0 left]⟩ (fun e t=>e= .exit 0∧t=⟨[],[Z1d0 left]⟩):=by
 exact gE ⟨rfl,rfl⟩ 0 [.is false] [] [K1 100000] (aC2 (zs84ca ks) rT)
abbrev Z1d5:St:=⟨[Z1d1 ks,(1,.clo 228 [] [.elt 100000 0 0]),Z1d2 ks,(8,.int .i64 0)],[Z1d0 left]⟩
theorem l265_0 (hsm:ks.length≤9223372036854775807) (k228:∀(x:Ex),x∈ks→∃rb,Sp 228 [.agg x.cells,.elt 100000 0 0] [Z1d0 left] (.bool rb) []):(∃rn,Lo 19 (loopOf Tryz.f265 0) (Z1d5 ks left) .ret ⟨[(4,.int .i64 rn)],[Z1d0 left]⟩)∨Lo 19 (loopOf Tryz.f265 0) (Z1d5 ks left) (.exit 0) ⟨[],[Z1d0 left]⟩:=by
 rcases range_ex (N:=ks.length) (k:=0) (fun i=>⟨[Z1d1 ks,(1,.clo 228 [] [.elt 100000 0 0]),Z1d2 ks,(8,.int .i64 (i:Int))],[Z1d0 left]⟩) ⟨[],[Z1d0 left]⟩ (fun t=>∃rn,t=⟨[(4,.int .i64 rn)],[Z1d0 left]⟩) (fun i hi=>t265_0 ks left hsm k228 i hi) (e265_0 ks left hsm k228) with ⟨s,h,hq⟩|h
 ·obtain ⟨rn,rfl⟩:=hq;exact .inl ⟨rn,h⟩
 ·exact .inr h
abbrev Z1d6:St:=⟨[Z1d1 ks,(1,.clo 228 [] [.elt 100000 0 0])],[Z1d0 left]⟩
theorem b265 (k228:∀(x:Ex),x∈ks→∃rb,Sp 228 [.agg x.cells,.elt 100000 0 0] [Z1d0 left] (.bool rb) []) (hsm:List.length (ks.map Ex.av)≤9223372036854775807):En 19 (bodyOf Tryz.f265) (Z1d6 ks left) (fun e t=>e= .ret∧∃rn,t=⟨[(4,.int .i64 rn)],[Z1d0 left]⟩):=by
 rcases l265_0 (ks) (left) (by simp at*;omega) (by assumption) with o0|o0
 ·obtain ⟨y1,hl2⟩:=o0
  exact ⟨Out.ret,St.mk [(4,.int .i64 y1)] [Z1d0 left],⟨rfl,_,rfl⟩,gA 0 [.cut [0,1,7,8] [K1 100000],.sum .ret [(4,.int .i64 y1)] [Z1d0 left]] [4] [K1 100000] (by kernel_rfl) (aC3 rT hl2 rT)⟩
 ·have hl1:=o0
  exact ⟨Out.ret,St.mk [(4,.int .i64 (-1))] [Z1d0 left],⟨rfl,_,rfl⟩,gA 0 [.cut [0,1,7,8] [K1 100000],.sum (.exit 0) [] [Z1d0 left]] [4] [K1 100000] (by kernel_rfl) (aC3 rT hl1 rT)⟩
theorem k265 (k228:∀(x:Ex),x∈ks→∃rb,Sp 228 [.agg x.cells,.elt 100000 0 0] [Z1d0 left] (.bool rb) []):∃rn,Sp 265 [.seq (ks.map Ex.av) false,.clo 228 [] [.elt 100000 0 0]] [Z1d0 left] (.int .i64 rn) []:=by
 refine ex_small (R:=fun rn=> .int .i64 rn) (upd:=fun _=>[]) (ks.map Ex.av) ⟨_,by simp,false,.inl rfl⟩ fun hsm=> ?_
 obtain ⟨e,t,⟨rfl,rn,rfl⟩,h⟩:=b265 ks left k228 (Nat.le_trans hsm (by simp [maxLen]))
 exact ⟨rn,sT Tryz.f265 (by intro id o hm;simp at hm;obtain ⟨rfl,rfl⟩:=hm;rfl) h (.inr rfl)⟩
abbrev Z1d3:Nat×AV:=(4,.bool false)
theorem b227 (k228:∀(x:Ex),x∈ks→∃rb,Sp 228 [.agg x.cells,.elt 100000 0 0] [Z1d0 left] (.bool rb) []):En 9 (bodyOf Tryz.f227) (Z1d6 ks left) (fun e t=>e= .ret∧∃rb,t=⟨[(4,.bool rb)],[Z1d0 left]⟩):=by
 obtain ⟨r0,hs1⟩:=k265 ks left (by assumption)
 rcases bft (decide (0≤r0)) with h2|h2
 ·exact ⟨Out.ret,St.mk [(4,.bool true)] [Z1d0 left],⟨rfl,_,rfl⟩,gA 0 [.call (.int .i64 r0) [100000] [],.is true] [4] [K1 100000] (by kernel_rfl) (aC3 hs1 h2 rT)⟩
 ·exact ⟨Out.ret,St.mk [Z1d3] [Z1d0 left],⟨rfl,_,rfl⟩,gA 0 [.call (.int .i64 r0) [100000] [],.is false] [4] [K1 100000] (by kernel_rfl) (aC3 hs1 h2 rT)⟩
theorem k227 (k228:∀(x:Ex),x∈ks→∃rb,Sp 228 [.agg x.cells,.elt 100000 0 0] [Z1d0 left] (.bool rb) []):∃rb,Sp 227 [.seq (ks.map Ex.av) false,.clo 228 [] [.elt 100000 0 0]] [Z1d0 left] (.bool rb) []:=by
 obtain ⟨e,t,⟨rfl,rb,rfl⟩,h⟩:=b227 ks left k228
 exact ⟨rb,sT Tryz.f227 (by intro id o hm;simp at hm;obtain ⟨rfl,rfl⟩:=hm;rfl) h (.inr rfl)⟩
theorem b228 (hl:1≤left) (hl2:left≤100) (k190:∀(l:Int),0≤l→l≤100→∃rb,Sp 190 [.agg x.cells,.int .i64 l] [] (.bool rb) []):En 9 (bodyOf Tryz.f228) ⟨[(0,.agg x.cells),(1,.elt 100000 0 0)],[Z1d0 left]⟩ (fun e t=>e= .ret∧∃rb,t=⟨[(3,.bool rb)],[Z1d0 left]⟩):=by
 obtain ⟨r0,hs1⟩:=k190 (left-1) (by omega) (by omega)
 cases r0 with
 |true=>
  exact ⟨Out.ret,St.mk [(3,.bool false)] [Z1d0 left],⟨rfl,_,rfl⟩,gA 0 [.call (.bool true) [] []] [3] [K1 100000] (by kernel_rfl) (aC3 (show IntKind.wrap .i64 (left-1)=left-1 from wrap64_id (by omega) (by omega)) hs1 rT)⟩
 |false=>
  exact ⟨Out.ret,St.mk [(3,.bool true)] [Z1d0 left],⟨rfl,_,rfl⟩,gA 0 [.call (.bool false) [] []] [3] [K1 100000] (by kernel_rfl) (aC3 (show IntKind.wrap .i64 (left-1)=left-1 from wrap64_id (by omega) (by omega)) hs1 rT)⟩
theorem k228 (hl:1≤left) (hl2:left≤100) (k190:∀(l:Int),0≤l→l≤100→∃rb,Sp 190 [.agg x.cells,.int .i64 l] [] (.bool rb) []):∃rb,Sp 228 [.agg x.cells,.elt 100000 0 0] [Z1d0 left] (.bool rb) []:=by
 obtain ⟨e,t,⟨rfl,rb,rfl⟩,h⟩:=b228 x left hl hl2 k190
 exact ⟨rb,sT Tryz.f228 (by intro id o hm;simp at hm;obtain ⟨rfl,rfl⟩:=hm;rfl) h (.inr rfl)⟩
theorem b190z:En 37 (bodyOf Tryz.f190) ⟨[(0,.agg x.cells),(1,.int .i64 0)],[]⟩ (fun e t=>e= .ret∧∃rb,t=⟨[(4,.bool rb)],[(100000,.var [.int .i64 0])]⟩):=by
 exact ⟨Out.ret,St.mk [Z1d3] [(100000,.var [.int .i64 0])],⟨rfl,_,rfl⟩,gA 99997 [.is true] [4] [K1 100000] (by kernel_rfl) (aC2 rT rT)⟩
theorem b190 (hne:left≠0) (k228:∀(y:Ex),y∈x.kids→∃rb,Sp 228 [.agg y.cells,.elt 100000 0 0] [Z1d0 left] (.bool rb) []):En 37 (bodyOf Tryz.f190) ⟨[(0,.agg x.cells),(1,.int .i64 left)],[]⟩ (fun e t=>e= .ret∧∃rb,t=⟨[(4,.bool rb)],[Z1d0 left]⟩):=by
 rcases bft (decide (Ex.op x=0)) with h0|h0
 ·rcases bft (decide ((↑(List.length (List.map Ex.av (Ex.kids x))):Int)=0)) with h1|h1
  ·obtain ⟨r2,hs3⟩:=k144 (Ex.t x)
   cases r2 with
   |true=>
    exact ⟨Out.ret,St.mk [(4,.bool true)] [Z1d0 left],⟨rfl,_,rfl⟩,gA 99997 [.is false,.is true,.is true,.call (.bool true) [] []] [4] [K1 100000] (by kernel_rfl) (aC5 (show decide (left=0)=false from decide_eq_false (by omega)) h0 h1 hs3 rT)⟩
   |false=>
    exact ⟨Out.ret,St.mk [Z1d3] [Z1d0 left],⟨rfl,_,rfl⟩,gA 99997 [.is false,.is true,.is true,.call (.bool false) [] []] [4] [K1 100000] (by kernel_rfl) (aC5 (show decide (left=0)=false from decide_eq_false (by omega)) h0 h1 hs3 rT)⟩
  ·exact ⟨Out.ret,St.mk [Z1d3] [Z1d0 left],⟨rfl,_,rfl⟩,gA 99997 [.is false,.is true,.is false] [4] [K1 100000] (by kernel_rfl) (aC4 (show decide (left=0)=false from decide_eq_false (by omega)) h0 h1 rT)⟩
 ·obtain ⟨r1,hs2⟩:=k145 (Ex.t x)
  cases r1 with
  |true=>
   obtain ⟨r3,hs4⟩:=k226 (Ex.op x)
   rcases bft (decide ((↑(List.length (List.map Ex.av (Ex.kids x))):Int)=r3)) with h5|h5
   ·obtain ⟨r6,hs7⟩:=k227 (Ex.kids x) (left) (by assumption)
    cases r6 with
    |true=>
     exact ⟨Out.ret,St.mk [Z1d3] [Z1d0 left],⟨rfl,_,rfl⟩,gA 99997 [.is false,.is false,.call (.bool true) [] [],.call (.int .i64 r3) [] [],.is false,.call (.bool true) [100000] []] [4] [K1 100000] (by kernel_rfl) (aC7 (show decide (left=0)=false from decide_eq_false (by omega)) h0 hs2 hs4 (nF h5) hs7 rT)⟩
    |false=>
     exact ⟨Out.ret,St.mk [(4,.bool true)] [Z1d0 left],⟨rfl,_,rfl⟩,gA 99997 [.is false,.is false,.call (.bool true) [] [],.call (.int .i64 r3) [] [],.is false,.call (.bool false) [100000] []] [4] [K1 100000] (by kernel_rfl) (aC7 (show decide (left=0)=false from decide_eq_false (by omega)) h0 hs2 hs4 (nF h5) hs7 rT)⟩
   ·exact ⟨Out.ret,St.mk [Z1d3] [Z1d0 left],⟨rfl,_,rfl⟩,gA 99997 [.is false,.is false,.call (.bool true) [] [],.call (.int .i64 r3) [] [],.is true] [4] [K1 100000] (by kernel_rfl) (aC6 (show decide (left=0)=false from decide_eq_false (by omega)) h0 hs2 hs4 (nT h5) rT)⟩
  |false=>
   exact ⟨Out.ret,St.mk [Z1d3] [Z1d0 left],⟨rfl,_,rfl⟩,gA 99997 [.is false,.is false,.call (.bool false) [] []] [4] [K1 100000] (by kernel_rfl) (aC4 (show decide (left=0)=false from decide_eq_false (by omega)) h0 hs2 rT)⟩
mutual
theorem k190:∀(x:Ex) (left:Int),0≤left→left≤100→∃rb,Sp 190 [.agg x.cells,.int .i64 left] [] (.bool rb) []
 | .mk o t ks,left,h0,h1=>by
   by_cases hz:left=0
   ·subst hz
    obtain ⟨e,t',⟨rfl,rb,rfl⟩,h⟩:=b190z (.mk o t ks)
    exact ⟨rb,sQ Tryz.f190 h⟩
   ·obtain ⟨e,t',⟨rfl,rb,rfl⟩,h⟩:=b190 (.mk o t ks) left hz (fun y hy=>k228 y left (by omega) h1 (fun l a b=>k190s ks l a b y hy))
    exact ⟨rb,sQ Tryz.f190 h⟩
theorem k190s:∀(l:List Ex) (left:Int),0≤left→left≤100→∀(y:Ex),y∈l→∃rb,Sp 190 [.agg y.cells,.int .i64 left] [] (.bool rb) []
 |[],_,_,_,y,hy=>by simp at hy
 |x::r,left,h0,h1,y,hy=>by
  rcases List.mem_cons.1 hy with e|e
  ·rw [e];exact k190 x left h0 h1
  ·exact k190s r left h0 h1 y e
end
end
end Go.Ped
namespace Go.Ped
open Go.RowKit
section
variable (l:List ByteArray)
instance memText (v:ByteArray) (l:List ByteArray):Decidable (v∈l):= @List.instDecidableMemOfLawfulBEq _ instBEqOfDecidableEq _ v l
def addV (l:List ByteArray) (v:ByteArray):List ByteArray:=
 if v=⟨#[]⟩∨v=⟨#[95]⟩∨v∈l then l else l++[v]
def addT (l:List ByteArray) (ts:List Tm):List ByteArray:=ts.foldl (fun l t=>addV l t.v) l
mutual
def Ex.terms:Ex→List Tm
 | .mk _ t k=>t::Ex.termsL k
def Ex.termsL:List Ex→List Tm
 |[]=>[]
 |e::r=>e.terms++Ex.termsL r
end
def Li.terms (x:Li):List Tm:=x.ts++(x.l.terms++x.r.terms)
def liTerms (l:List Li):List Tm:=l.flatMap Li.terms
def pos (l:List ByteArray):List AV:=(List.range l.length).map fun i=> .int .i64 ((i+1:Nat):Int)
def vp (l:List ByteArray):List (Nat×Ob):=[(100003,.var [.own 1 (l.map AV.str)]),(100004,.var [.map 100005]),(100005,.map (l.map AV.str) (pos l))]
theorem addT_cons (t:Tm) (r:List Tm):addT l (t::r)=addT (addV l t.v) r:=rfl
theorem addT_app (a b:List Tm):addT l (a++b)=addT (addT l a) b:=by simp [addT]
theorem addV_len (v:ByteArray):(addV l v).length≤l.length+1:=by
 unfold addV
 split<;>simp
theorem addT_len:∀(ts:List Tm) (l:List ByteArray),(addT l ts).length≤l.length+ts.length
 |[],l=>by simp [addT]
 |t::r,l=>by
  rw [addT_cons]
  have:=addT_len r (addV l t.v)
  have:=addV_len l t.v
  simp only [List.length_cons];omega
theorem pos_get {l:List ByteArray} {j:Nat} (h:j<l.length):(pos l)[j]? =some (.int .i64 ((j+1:Nat):Int)):=by
 simp [pos,h]
theorem pos_app (v:ByteArray):pos (l++[v])=pos l++[.int .i64 ((l.length+1:Nat):Int)]:=by
 simp [pos,List.range_succ]
@[simp] theorem okE_str (v:ByteArray):okE 1 (.str v):=⟨rfl,by simp [AV.cells,solid]⟩
@[simp] theorem okE_int (k:IntKind) (n:Int):okE 1 (.int k n):=⟨rfl,by simp [AV.cells,solid]⟩
@[simp] theorem okE_agg (n:Nat) (cs:List AV):okE n (.agg cs)↔cs.length=n∧∀c,c∈cs→solid c=true:=Iff.rfl
@[simp] theorem solid_str (v:ByteArray):solid (.str v)=true:=rfl
@[simp] theorem solid_int (k:IntKind) (n:Int):solid (.int k n)=true:=rfl
@[simp] theorem solid_seq (es:List AV) (c:Bool):solid (.seq es c)=true:=rfl
@[simp] theorem noIdsL_app (a b:List AV):noIdsL (a++b)=(noIdsL a&&noIdsL b):=by
  induction a with
  |nil=>simp [noIdsL]
  |cons x r ih=>simp only [List.cons_append,noIdsL,ih,Bool.and_assoc]
@[simp] theorem noIdsL_strs (l:List ByteArray):noIdsL (l.map AV.str)=true:=noIdsL_of AV.str (fun _=>rfl) l
@[simp] theorem noIdsL_pos (l:List ByteArray):noIdsL (pos l)=true:=noIdsL_of (fun i:Nat=>AV.int .i64 ((i+1:Nat):Int)) (fun _=>rfl) _
@[simp] theorem noIdsL_str1 (v:ByteArray):noIdsL [.str v]=true:=rfl
@[simp] theorem noIdsL_int1 (k:IntKind) (n:Int):noIdsL [.int k n]=true:=rfl
end
section
def restC:Nat→Code→Code
 |0,c=>c
 |k+1,c=>restC k (sndC c)
def partC (k:Nat) (c:Code):Code:=fstC (restC k c)
def isSeq:Code→Bool
 | .seq _ _=>true
 |_=>false
theorem restC_snd:∀(k:Nat) (c:Code),restC (k+1) c=sndC (restC k c)
 |0,c=>rfl
 |k+1,c=>by
  show restC (k+1) (sndC c)=sndC (restC k (sndC c))
  exact restC_snd k (sndC c)
section
variable {P:Program} {n:Nat} {c:Code} {st st1 st':St} {e:Out}
theorem seq_eq {k:Nat} (hk:isSeq (restC k c)=true):restC k c= .seq (partC k c) (restC (k+1) c):=by
 rw [restC_snd]
 unfold partC
 revert hk
 cases restC k c<;>simp [isSeq,fstC,sndC]
theorem Runs.nth (k:Nat) (hk:isSeq (restC k c)=true) (h:Runs P n (partC k c) st .normal st1) (g:Runs P n (restC (k+1) c) st1 e st'):Runs P n (restC k c) st e st':=by
 rw [seq_eq hk];exact h.seq g
theorem RunsP.nth (k:Nat) (hk:isSeq (restC k c)=true) (h:RunsP P n (partC k c) st .normal st1) (g:RunsP P n (restC (k+1) c) st1 e st'):RunsP P n (restC k c) st e st':=by
 rw [seq_eq hk];exact h.seq g
theorem range_inv {N k:Nat} (st:Nat→St) (stE:St) (Q:St→Prop) (R:Nat→Prop) (turn:∀i,i<N→Ends P n c (st i) (fun e s=>(e= .ret∧Q s)∨(e= .normal∧s=st (i+1)∧R i))) (hend:Ends P n c (st N) (fun e s=>e= .exit k∧s=stE)):
  (∃s,Loops P n c (st 0) .ret s∧Q s)∨(Loops P n c (st 0) (.exit k) stE∧∀i,i<N→R i):=by
 have go:∀d i,i+d=N→(∃s,Loops P n c (st i) .ret s∧Q s)∨(Loops P n c (st i) (.exit k) stE∧∀j,i≤j→j<N→R j):=by
  intro d
  induction d with
  |zero=>
   intro i hi
   have:i=N:=by omega
   subst this
   obtain ⟨e,s,⟨rfl,rfl⟩,h⟩:=hend
   exact .inr ⟨.leave h (by simp),fun j h1 h2=>by omega⟩
  |succ d ih=>
   intro i hi
   obtain ⟨e,s,h1|h1,h⟩:=turn i (by omega)
   ·obtain ⟨rfl,hq⟩:=h1
    exact .inl ⟨s,.leave h (by simp),hq⟩
   ·obtain ⟨rfl,rfl,hr⟩:=h1
    rcases ih (i+1) (by omega) with ⟨s,h2,hq⟩|⟨h2,h3⟩
    ·exact .inl ⟨s,.turn h h2,hq⟩
    ·refine .inr ⟨.turn h h2,fun j h4 h5=> ?_⟩
     by_cases e:i=j
     ·rw [←e];exact hr
     ·exact h3 j (by omega) h5
 rcases go N 0 (by omega) with h|⟨h,k⟩
 ·exact .inl h
 ·exact .inr ⟨h,fun i hi=>k i (by omega) hi⟩
theorem inv_loop {γ:Type} {N k:Nat} (st:Nat→γ→St) (stE:γ→St) (Q:St→Prop) (Inv:Nat→γ→Prop)
  (turn:∀i g,i<N→Inv i g→Ends P n c (st i g) (fun e s=>(e= .ret∧Q s)∨(e= .normal∧∃g',Inv (i+1) g'∧s=st (i+1) g')))
  (hend:∀g,Inv N g→Ends P n c (st N g) (fun e s=>e= .exit k∧s=stE g)) (g:γ) (h0:Inv 0 g):
  (∃s,Loops P n c (st 0 g) .ret s∧Q s)∨∃g',Inv N g'∧Loops P n c (st 0 g) (.exit k) (stE g'):=by
 have go:∀d i g,i+d=N→Inv i g→(∃s,Loops P n c (st i g) .ret s∧Q s)∨∃g',Inv N g'∧Loops P n c (st i g) (.exit k) (stE g'):=by
  intro d
  induction d with
  |zero=>
   intro i g hi hg
   have:i=N:=by omega
   subst this
   obtain ⟨e,s,⟨rfl,rfl⟩,h⟩:=hend g hg
   exact .inr ⟨g,hg,.leave h (by simp)⟩
  |succ d ih=>
   intro i g hi hg
   obtain ⟨e,s,h1|h1,h⟩:=turn i g (by omega) hg
   ·obtain ⟨rfl,hq⟩:=h1
    exact .inl ⟨s,.leave h (by simp),hq⟩
   ·obtain ⟨rfl,g',hg',rfl⟩:=h1
    rcases ih (i+1) g' (by omega) hg' with ⟨s,h2,hq⟩|⟨g2,h2,h3⟩
    ·exact .inl ⟨s,.turn h h2,hq⟩
    ·exact .inr ⟨g2,h2,.turn h h3⟩
 exact go N 0 g (by omega) h0
theorem inv_loop0 {γ:Type} {N k:Nat} (st:Nat→γ→St) (stE:γ→St) (Inv:Nat→γ→Prop)
  (turn:∀i g,i<N→Inv i g→Ends P n c (st i g) (fun e s=>e= .normal∧∃g',Inv (i+1) g'∧s=st (i+1) g'))
  (hend:∀g,Inv N g→Ends P n c (st N g) (fun e s=>e= .exit k∧s=stE g)) (g:γ) (h0:Inv 0 g):
  ∃g',Inv N g'∧Loops P n c (st 0 g) (.exit k) (stE g'):=by
 rcases inv_loop st stE (fun _=>False) Inv (fun i g hi hg=>by
  obtain ⟨e,s,h1,h⟩:=turn i g hi hg
  exact ⟨e,s,.inr h1,h⟩) hend g h0 with ⟨s,_,h⟩|h
 ·exact h.elim
 ·exact h
end
def renStK (ks slots:List Nat) (tb:List (Nat×Rk)) (st:St):Option (St×List Prop):=
 if apartT tb=true∧(ks.all fun k=>hasKeep k tb)=true then
  match resolve mid st.hp tb with
  |Option.some ρ=>Option.some (⟨renEnv ρ st.env slots,newHp ρ st.hp tb⟩,renEnvC ρ st.env slots++newCs ρ st.hp tb)
  |none=>none
 else none
theorem RunsK.keepR {P:Program} {n:Nat} {c:Code} {st st1 st':St} {e:Out} {cs:List Prop} {ks:List Nat} (slots:List Nat) (tb:List (Nat×Rk)) (h:RunsK P n ks c st e st1) (hr:renStK ks slots tb st1=some (st',cs)) (hc:allP cs):RunsK P n ks c st e st':=by
 intro F a w hF hA
 refine wp_mono (h F a w hF hA) fun e' a' w' ⟨h1,h2⟩=>⟨h1,?_⟩
 unfold renStK at hr
 split at hr
 ·rename_i hag
  cases hs:resolve mid st1.hp tb with
  |none=>rw [hs] at hr;cases hr
  |some ρ=>
   rw [hs] at hr
   injection hr with hr
   simp only [Prod.mk.injEq] at hr
   obtain ⟨rfl,rfl⟩:=hr
   obtain ⟨S,β,E,M⟩:=h2
   obtain ⟨S',β',T,M'⟩:=M.ren (lim:=mid) (fun i b h1 h2=>hasKeep_mem (List.all_eq_true.1 hag.2 i (hF i b h2))) (fun id bi h hb=>(M.own id bi hb).2.2.elim (fun q=>absurd q.1 (Nat.not_le.2 h)) (fun q=>q)) hag.1 hs fun p hp=>allP_mem hc p (List.mem_append_right _ hp)
   exact ⟨S',β',E.ren T fun p hp=>allP_mem hc p (List.mem_append_left _ hp),M'⟩
 ·cases hr
end
end Go.Ped
namespace Go.Ped
open Go.RowKit Go.Proofs
section
variable (s:ByteArray) (x:Ex)
abbrev Z1g0:Nat×AV:=(6,.bool false)
theorem b143p (a b:Int):En 63 (bodyOf Tryz.f143) ⟨[(0,.str s),(1,.int .u8 a),(2,.int .u8 b)],[]⟩ (fun e t=>e= .ret∧∃rb:Bool,t=⟨[(6,.bool rb)],[]⟩∧(rb=true→s.size≤120)):=by
 rcases bft (decide ((↑(ByteArray.size s):Int)=0)) with h0|h0
 ·exact ⟨Out.ret,St.mk [Z1g0] [],⟨rfl,_,rfl,by first|(intro h;cases h;done)|(intro _;simp_all;omega)|(intro _;simp_all;done)⟩,gA 0 [.is true] [6] [] (by kernel_rfl) (aC1 h0)⟩
 ·rcases bft (decide (120<(↑(ByteArray.size s):Int))) with h1|h1
  ·exact ⟨Out.ret,St.mk [Z1g0] [],⟨rfl,_,rfl,by first|(intro h;cases h;done)|(intro _;simp_all;omega)|(intro _;simp_all;done)⟩,gA 0 [.is false,.is true] [6] [] (by kernel_rfl) (aC2 h0 h1)⟩
  ·obtain ⟨x2,hx2⟩:=byte_of (s:=s) (n:=0) (by omega) (by have:=of_decide_eq_false h1;have:=of_decide_eq_false h0;omega)
   rcases bft (decide ((↑(UInt8.toNat x2):Int)<a)) with h3|h3
   ·exact ⟨Out.ret,St.mk [Z1g0] [],⟨rfl,_,rfl,by first|(intro h;cases h;done)|(intro _;simp_all;omega)|(intro _;simp_all;done)⟩,gA 0 [.is false,.is false,.elt (.int .u8 (↑(UInt8.toNat x2):Int)),.is true] [6] [] (by kernel_rfl) (aC4 h0 h1 hx2 h3)⟩
   ·rcases bft (decide (b<(↑(UInt8.toNat x2):Int))) with h4|h4
    ·exact ⟨Out.ret,St.mk [Z1g0] [],⟨rfl,_,rfl,by first|(intro h;cases h;done)|(intro _;simp_all;omega)|(intro _;simp_all;done)⟩,gA 0 [.is false,.is false,.elt (.int .u8 (↑(UInt8.toNat x2):Int)),.is false,.elt (.int .u8 (↑(UInt8.toNat x2):Int)),.is true] [6] [] (by kernel_rfl) (aC6 h0 h1 hx2 h3 hx2 h4)⟩
    ·rcases l143_0 (s) (by have:=of_decide_eq_false h4;have:=of_decide_eq_false h3;have:=of_decide_eq_false h1;have:=of_decide_eq_false h0;simp;omega) with o5|o5
     ·obtain ⟨y6,hl7⟩:=o5
      exact ⟨Out.ret,St.mk [(6,.bool y6)] [],⟨rfl,_,rfl,by first|(intro h;cases h;done)|(intro _;simp_all;omega)|(intro _;simp_all;done)⟩,gA 0 [.is false,.is false,.elt (.int .u8 (↑(UInt8.toNat x2):Int)),.is false,.elt (.int .u8 (↑(UInt8.toNat x2):Int)),.is false,.cut [30,31,32] [],.sum .ret [(6,.bool y6)] []] [6] [] (by kernel_rfl) (aC8 h0 h1 hx2 h3 hx2 h4 (show ByteArray.size s≤9223372036854775807 from by simp at*;omega) hl7)⟩
     ·have hl6:=o5
      exact ⟨Out.ret,St.mk [(6,.bool true)] [],⟨rfl,_,rfl,by first|(intro h;cases h;done)|(intro _;simp_all;omega)|(intro _;simp_all;done)⟩,gA 0 [.is false,.is false,.elt (.int .u8 (↑(UInt8.toNat x2):Int)),.is false,.elt (.int .u8 (↑(UInt8.toNat x2):Int)),.is false,.cut [30,31,32] [],.sum (.exit 0) [] []] [6] [] (by kernel_rfl) (aC8 h0 h1 hx2 h3 hx2 h4 (show ByteArray.size s≤9223372036854775807 from by simp at*;omega) hl6)⟩
theorem k143p (a b:Int):∃rb:Bool,Sp 143 [.str s,.int .u8 a,.int .u8 b] [] (.bool rb) []∧(rb=true→s.size≤120):=by
 obtain ⟨e,t,⟨rfl,rn,rfl,hp⟩,h⟩:=b143p s a b
 exact ⟨rn,sQ Tryz.f143 h,hp⟩
abbrev Z1g1:Nat×AV:=(2,.bool false)
theorem b87p:En 15 (bodyOf Tryz.f87) ⟨[(0,.str s)],[]⟩ (fun e t=>e= .ret∧∃rb:Bool,t=⟨[(2,.bool rb)],[]⟩∧(rb=true→s.size≤120)):=by
 rcases bft (decide (s=ByteArray.mk #[110,111,116])) with h0|h0
 ·exact ⟨Out.ret,St.mk [Z1g1] [],⟨rfl,_,rfl,by intro h;cases h⟩,gA 0 [.is true] [2] [] (by kernel_rfl) (aC1 h0)⟩
 ·rcases bft (decide (s=ByteArray.mk #[99,111,117,110,116])) with h1|h1
  ·exact ⟨Out.ret,St.mk [Z1g1] [],⟨rfl,_,rfl,by intro h;cases h⟩,gA 0 [.is false,.is true] [2] [] (by kernel_rfl) (aC2 h0 h1)⟩
  ·rcases bft (decide (s=ByteArray.mk #[115,117,109])) with h2|h2
   ·exact ⟨Out.ret,St.mk [Z1g1] [],⟨rfl,_,rfl,by intro h;cases h⟩,gA 0 [.is false,.is false,.is true] [2] [] (by kernel_rfl) (aC3 h0 h1 h2)⟩
   ·rcases bft (decide (s=ByteArray.mk #[109,105,110])) with h3|h3
    ·exact ⟨Out.ret,St.mk [Z1g1] [],⟨rfl,_,rfl,by intro h;cases h⟩,gA 0 [.is false,.is false,.is false,.is true] [2] [] (by kernel_rfl) (aC4 h0 h1 h2 h3)⟩
    ·rcases bft (decide (s=ByteArray.mk #[109,97,120])) with h4|h4
     ·exact ⟨Out.ret,St.mk [Z1g1] [],⟨rfl,_,rfl,by intro h;cases h⟩,gA 0 [.is false,.is false,.is false,.is false,.is true] [2] [] (by kernel_rfl) (aC5 h0 h1 h2 h3 h4)⟩
     ·rcases bft (decide (s=ByteArray.mk #[108,101,110])) with h5|h5
      ·exact ⟨Out.ret,St.mk [Z1g1] [],⟨rfl,_,rfl,by intro h;cases h⟩,gA 0 [.is false,.is false,.is false,.is false,.is false,.is true] [2] [] (by kernel_rfl) (aC6 h0 h1 h2 h3 h4 h5)⟩
      ·rcases bft (decide (s=ByteArray.mk #[99,104,97,114,115])) with h6|h6
       ·exact ⟨Out.ret,St.mk [Z1g1] [],⟨rfl,_,rfl,by intro h;cases h⟩,gA 0 [.is false,.is false,.is false,.is false,.is false,.is false,.is true] [2] [] (by kernel_rfl) (aC7 h0 h1 h2 h3 h4 h5 h6)⟩
       ·rcases bft (decide (s=ByteArray.mk #[98,97,99,107])) with h7|h7
        ·exact ⟨Out.ret,St.mk [Z1g1] [],⟨rfl,_,rfl,by intro h;cases h⟩,gA 0 [.is false,.is false,.is false,.is false,.is false,.is false,.is false,.is true] [2] [] (by kernel_rfl) (aC8 h0 h1 h2 h3 h4 h5 h6 h7)⟩
        ·obtain ⟨r8,⟨hs9,hs9'⟩⟩:=k143p s 97 122
         cases r8 with
         |true=>
          exact ⟨Out.ret,St.mk [(2,.bool true)] [],⟨rfl,_,rfl,by assumption⟩,gA 0 [.is false,.is false,.is false,.is false,.is false,.is false,.is false,.is false,.call (.bool true) [] []] [2] [] (by kernel_rfl) (aC9 h0 h1 h2 h3 h4 h5 h6 h7 hs9)⟩
         |false=>
          exact ⟨Out.ret,St.mk [Z1g1] [],⟨rfl,_,rfl,by assumption⟩,gA 0 [.is false,.is false,.is false,.is false,.is false,.is false,.is false,.is false,.call (.bool false) [] []] [2] [] (by kernel_rfl) (aC9 h0 h1 h2 h3 h4 h5 h6 h7 hs9)⟩
theorem k87p:∃rb:Bool,Sp 87 [.str s] [] (.bool rb) []∧(rb=true→s.size≤120):=by
 obtain ⟨e,t,⟨rfl,rn,rfl,hp⟩,h⟩:=b87p s
 exact ⟨rn,sQ Tryz.f87 h,hp⟩
abbrev Z1g2:Nat×AV:=(2,.int .i64 1)
abbrev Z1g3:Nat×AV:=(2,.int .i64 2)
abbrev Z1ga (rn:Int):St:=⟨[(2,.int .i64 rn)],[]⟩
theorem b226p (op:Int):En 16 (bodyOf Tryz.f226) ⟨[(0,.int .i8 op)],[]⟩ (fun e t=>e= .ret∧∃rn:Int,t=(Z1ga rn)∧rn≤2):=by
 rcases bft (decide (op=1)) with h0|h0
 ·exact ⟨Out.ret,St.mk [Z1g2] [],⟨rfl,_,rfl,by decide⟩,gA 0 [.is true] [2] [] (by kernel_rfl) (aC1 h0)⟩
 ·rcases bft (decide (op=8)) with h1|h1
  ·exact ⟨Out.ret,St.mk [Z1g2] [],⟨rfl,_,rfl,by decide⟩,gA 0 [.is false,.is true] [2] [] (by kernel_rfl) (aC2 h0 h1)⟩
  ·rcases bft (decide (op=9)) with h2|h2
   ·exact ⟨Out.ret,St.mk [Z1g2] [],⟨rfl,_,rfl,by decide⟩,gA 0 [.is false,.is false,.is true] [2] [] (by kernel_rfl) (aC3 h0 h1 h2)⟩
   ·rcases bft (decide (op=10)) with h3|h3
    ·exact ⟨Out.ret,St.mk [Z1g2] [],⟨rfl,_,rfl,by decide⟩,gA 0 [.is false,.is false,.is false,.is true] [2] [] (by kernel_rfl) (aC4 h0 h1 h2 h3)⟩
    ·rcases bft (decide (op=2)) with h4|h4
     ·exact ⟨Out.ret,St.mk [Z1g3] [],⟨rfl,_,rfl,by decide⟩,gA 0 [.is false,.is false,.is false,.is false,.is true] [2] [] (by kernel_rfl) (aC5 h0 h1 h2 h3 h4)⟩
     ·rcases bft (decide (op=3)) with h5|h5
      ·exact ⟨Out.ret,St.mk [Z1g3] [],⟨rfl,_,rfl,by decide⟩,gA 0 [.is false,.is false,.is false,.is false,.is false,.is true] [2] [] (by kernel_rfl) (aC6 h0 h1 h2 h3 h4 h5)⟩
      ·rcases bft (decide (op=4)) with h6|h6
       ·exact ⟨Out.ret,St.mk [Z1g3] [],⟨rfl,_,rfl,by decide⟩,gA 0 [.is false,.is false,.is false,.is false,.is false,.is false,.is true] [2] [] (by kernel_rfl) (aC7 h0 h1 h2 h3 h4 h5 h6)⟩
       ·rcases bft (decide (op=5)) with h7|h7
        ·exact ⟨Out.ret,St.mk [Z1g3] [],⟨rfl,_,rfl,by decide⟩,gA 0 [.is false,.is false,.is false,.is false,.is false,.is false,.is false,.is true] [2] [] (by kernel_rfl) (aC8 h0 h1 h2 h3 h4 h5 h6 h7)⟩
        ·rcases bft (decide (op=6)) with h8|h8
         ·exact ⟨Out.ret,St.mk [Z1g3] [],⟨rfl,_,rfl,by decide⟩,gA 0 [.is false,.is false,.is false,.is false,.is false,.is false,.is false,.is false,.is true] [2] [] (by kernel_rfl) (aC9 h0 h1 h2 h3 h4 h5 h6 h7 h8)⟩
         ·rcases bft (decide (op=7)) with h9|h9
          ·exact ⟨Out.ret,St.mk [Z1g3] [],⟨rfl,_,rfl,by decide⟩,gA 0 [.is false,.is false,.is false,.is false,.is false,.is false,.is false,.is false,.is false,.is true] [2] [] (by kernel_rfl) (aC10 h0 h1 h2 h3 h4 h5 h6 h7 h8 h9)⟩
          ·exact ⟨Out.ret,St.mk [(2,.int .i64 (-1))] [],⟨rfl,_,rfl,by decide⟩,gA 0 [.is false,.is false,.is false,.is false,.is false,.is false,.is false,.is false,.is false,.is false] [2] [] (by kernel_rfl) (aC10 h0 h1 h2 h3 h4 h5 h6 h7 h8 h9)⟩
theorem k226p (op:Int):∃rn:Int,Sp 226 [.int .i8 op] [] (.int .i64 rn) []∧rn≤2:=by
 obtain ⟨e,t,⟨rfl,rn,rfl,hp⟩,h⟩:=b226p op
 exact ⟨rn,sQ Tryz.f226 h,hp⟩
abbrev Z1g4 (left:Int):Nat×Ob:=(100000,.var [.int .i64 left])
abbrev Z1g5 (ks:List Ex):Nat×AV:=(0,.seq (ks.map Ex.av) false)
abbrev Z1g6 (ks:List Ex):Nat×AV:=(7,.int .i64 ((ks.map Ex.av).length:Nat))
abbrev Z1gb (ks:List Ex) (i:Nat) (left:Int):St:=⟨[Z1g5 ks,(1,.clo 228 [] [.elt 100000 0 0]),Z1g6 ks,(8,.int .i64 (i:Int))],[Z1g4 left]⟩
abbrev Z1gc (rn left:Int):St:=⟨[(4,.int .i64 rn)],[Z1g4 left]⟩
theorem t265p (G:Ex→Prop) (ks:List Ex) (left:Int) (hsm:ks.length≤9223372036854775807) (k228:∀(x:Ex),x∈ks→∃rb,Sp 228 [.agg x.cells,.elt 100000 0 0] [Z1g4 left] (.bool rb) []∧(rb=false→G x)) (i:Nat) (hi:i<ks.length):En 19 (loopOf Tryz.f265 0) (Z1gb ks i left) (fun e t=>(e= .ret∧∃rn:Int,t=(Z1gc rn left)∧0≤rn)∨(e= .normal∧t=⟨[Z1g5 ks,(1,.clo 228 [] [.elt 100000 0 0]),Z1g6 ks,(8,.int .i64 ((i+1:Nat):Int))],[Z1g4 left]⟩∧∀y,ks[i]? =some y→G y)):=by
 obtain ⟨x0,hm0,hx0⟩:=elt_ex (l:=ks) (n:=(↑i:Int)) (by omega) (by omega)
 obtain ⟨r1,⟨hs2,hs2'⟩⟩:=k228 x0 (List.mem_of_getElem? (by assumption))
 cases r1 with
 |true=>
  exact ⟨Out.ret,St.mk [(4,.int .i64 (i:Int))] [Z1g4 left],.inl ⟨rfl,_,rfl,by omega⟩,gA 0 [.is true,.elt (.agg x0.cells),.call (.bool true) [100000] []] [4] [K1 100000] (by kernel_rfl) (aC4 (d1 Ex.av ks i (by omega)) hx0 hs2 rT)⟩
 |false=>
  exact ⟨Out.normal,St.mk [Z1g5 ks,(1,.clo 228 [] [.elt 100000 0 0]),(7,.int .i64 (↑(ks.map Ex.av).length:Int)),(8,.int .i64 ((i:Int)+1))] [Z1g4 left],.inr ⟨rfl,rfl,fun y hy↦by have e:some y=some x0:=hy.symm.trans hm0;injection e with e;subst e;exact hs2' rfl⟩,gA 0 [.is true,.elt (.agg x0.cells),.call (.bool false) [100000] []] [0,1,7,8] [K1 100000] (by kernel_rfl) (aC5 (d1 Ex.av ks i (by omega)) hx0 hs2 (w1 i (by omega)) rT)⟩
theorem e265p (ks:List Ex) (left:Int):En 19 (loopOf Tryz.f265 0) ⟨[Z1g5 ks,(1,.clo 228 [] [.elt 100000 0 0]),Z1g6 ks,(8,.int .i64 ((ks.length:Nat):Int))],[Z1g4 left]⟩ (fun e t=>e= .exit 0∧t=⟨[],[Z1g4 left]⟩):=by
 exact gE ⟨rfl,rfl⟩ 0 [.is false] [] [K1 100000] (aC2 (zs84ca ks) rT)
abbrev Z1gd (ks:List Ex) (left:Int):St:=⟨[Z1g5 ks,(1,.clo 228 [] [.elt 100000 0 0]),Z1g6 ks,(8,.int .i64 0)],[Z1g4 left]⟩
theorem l265_0p (G:Ex→Prop) (ks:List Ex) (left:Int) (hsm:ks.length≤9223372036854775807) (k228:∀(x:Ex),x∈ks→∃rb,Sp 228 [.agg x.cells,.elt 100000 0 0] [Z1g4 left] (.bool rb) []∧(rb=false→G x)):
  (∃rn:Int,Lo 19 (loopOf Tryz.f265 0) (Z1gd ks left) .ret (Z1gc rn left)∧0≤rn)∨
  (Lo 19 (loopOf Tryz.f265 0) (Z1gd ks left) (.exit 0) ⟨[],[Z1g4 left]⟩∧∀y,y∈ks→G y):=by
 rcases range_inv (P:=Tryz.prog) (n:=19) (c:=loopOf Tryz.f265 0) (N:=ks.length) (k:=0) (fun i=>⟨[Z1g5 ks,(1,.clo 228 [] [.elt 100000 0 0]),Z1g6 ks,(8,.int .i64 (i:Int))],[Z1g4 left]⟩) ⟨[],[Z1g4 left]⟩
  (fun t=>∃rn:Int,t=(Z1gc rn left)∧0≤rn) (fun i=>∀y,ks[i]? =some y→G y) (fun i hi=>t265p G ks left hsm k228 i hi) (e265p ks left) with ⟨s,h,rn,rfl,h0⟩|⟨h,hr⟩
 ·exact .inl ⟨rn,h,h0⟩
 ·refine .inr ⟨h,fun y hy=> ?_⟩
  obtain ⟨i,hi⟩:=List.mem_iff_getElem?.1 hy
  exact hr i (List.getElem?_eq_some_iff.1 hi).1 y hi
theorem b265p (G:Ex→Prop) (ks:List Ex) (left:Int) (hsm:ks.length≤9223372036854775807) (k228:∀(x:Ex),x∈ks→∃rb,Sp 228 [.agg x.cells,.elt 100000 0 0] [Z1g4 left] (.bool rb) []∧(rb=false→G x)):En 19 (bodyOf Tryz.f265) ⟨[Z1g5 ks,(1,.clo 228 [] [.elt 100000 0 0])],[Z1g4 left]⟩ (fun e t=>e= .ret∧∃rn:Int,t=(Z1gc rn left)∧(rn<0→∀y,y∈ks→G y)):=by
 rcases l265_0p _ (ks) (left) (by assumption) (by assumption) with o0|o0
 ·obtain ⟨y1,⟨hl2,hl2'⟩⟩:=o0
  exact ⟨Out.ret,St.mk [(4,.int .i64 y1)] [Z1g4 left],⟨rfl,_,rfl,by first|(intro h;omega)|(intro _;assumption)⟩,gA 0 [.cut [0,1,7,8] [K1 100000],.sum .ret [(4,.int .i64 y1)] [Z1g4 left]] [4] [K1 100000] (by kernel_rfl) (aC3 rT hl2 rT)⟩
 ·obtain ⟨hl1,hl1'⟩:=o0
  exact ⟨Out.ret,St.mk [(4,.int .i64 (-1))] [Z1g4 left],⟨rfl,_,rfl,by first|(intro h;omega)|(intro _;assumption)⟩,gA 0 [.cut [0,1,7,8] [K1 100000],.sum (.exit 0) [] [Z1g4 left]] [4] [K1 100000] (by kernel_rfl) (aC3 rT hl1 rT)⟩
theorem k265p (G:Ex→Prop) (ks:List Ex) (left:Int) (k228:∀(x:Ex),x∈ks→∃rb,Sp 228 [.agg x.cells,.elt 100000 0 0] [Z1g4 left] (.bool rb) []∧(rb=false→G x)) (hsm:ks.length≤9223372036854775807):∃rn:Int,Sp 265 [.seq (ks.map Ex.av) false,.clo 228 [] [.elt 100000 0 0]] [Z1g4 left] (.int .i64 rn) []∧(rn<0→∀y,y∈ks→G y):=by
 obtain ⟨e,t,⟨rfl,rn,rfl,hg⟩,h⟩:=b265p G ks left hsm k228
 exact ⟨rn,sT Tryz.f265 (by intro id o hm;simp at hm;obtain ⟨rfl,rfl⟩:=hm;rfl) h (.inr rfl),hg⟩
abbrev Z1g7:Nat×AV:=(4,.bool false)
theorem b227p (G:Ex→Prop) (ks:List Ex) (left:Int) (hsm:ks.length≤9223372036854775807) (k228:∀(x:Ex),x∈ks→∃rb,Sp 228 [.agg x.cells,.elt 100000 0 0] [Z1g4 left] (.bool rb) []∧(rb=false→G x)):En 9 (bodyOf Tryz.f227) ⟨[Z1g5 ks,(1,.clo 228 [] [.elt 100000 0 0])],[Z1g4 left]⟩ (fun e t=>e= .ret∧∃rb:Bool,t=⟨[(4,.bool rb)],[Z1g4 left]⟩∧(rb=false→∀y,y∈ks→G y)):=by
 obtain ⟨r0,⟨hs1,hs1'⟩⟩:=k265p _ (ks) (left) (by assumption) (by assumption)
 rcases bft (decide (0≤r0)) with h2|h2
 ·exact ⟨Out.ret,St.mk [(4,.bool true)] [Z1g4 left],⟨rfl,_,rfl,by first|(intro h;cases h;done)|(intro _;assumption)|(intro _;apply hs1';simp_all;done)|(intro _;apply hs1';simp_all;omega)⟩,gA 0 [.call (.int .i64 r0) [100000] [],.is true] [4] [K1 100000] (by kernel_rfl) (aC3 hs1 h2 rT)⟩
 ·exact ⟨Out.ret,St.mk [Z1g7] [Z1g4 left],⟨rfl,_,rfl,by first|(intro h;cases h;done)|(intro _;assumption)|(intro _;apply hs1';simp_all;done)|(intro _;apply hs1';simp_all;omega)⟩,gA 0 [.call (.int .i64 r0) [100000] [],.is false] [4] [K1 100000] (by kernel_rfl) (aC3 hs1 h2 rT)⟩
theorem k227p (G:Ex→Prop) (ks:List Ex) (left:Int) (k228:∀(x:Ex),x∈ks→∃rb,Sp 228 [.agg x.cells,.elt 100000 0 0] [Z1g4 left] (.bool rb) []∧(rb=false→G x)) (hsm:ks.length≤9223372036854775807):∃rb:Bool,Sp 227 [.seq (ks.map Ex.av) false,.clo 228 [] [.elt 100000 0 0]] [Z1g4 left] (.bool rb) []∧(rb=false→∀y,y∈ks→G y):=by
 obtain ⟨e,t,⟨rfl,rn,rfl,hg⟩,h⟩:=b227p G ks left hsm k228
 exact ⟨rn,sT Tryz.f227 (by intro id o hm;simp at hm;obtain ⟨rfl,rfl⟩:=hm;rfl) h (.inr rfl),hg⟩
abbrev Z1g8:Nat×AV:=(0,.agg x.cells)
theorem b228p (G:Int→Prop) (x:Ex) (left:Int) (hl:1≤left) (hl2:left≤100) (k190:∀(l:Int),0≤l→l≤100→∃rb,Sp 190 [.agg x.cells,.int .i64 l] [] (.bool rb) []∧(rb=true→G l)):En 9 (bodyOf Tryz.f228) ⟨[Z1g8 x,(1,.elt 100000 0 0)],[Z1g4 left]⟩ (fun e t=>e= .ret∧∃rb:Bool,t=⟨[(3,.bool rb)],[Z1g4 left]⟩∧(rb=false→G (left-1))):=by
 obtain ⟨r0,⟨hs1,hs1'⟩⟩:=k190 (left-1) (by omega) (by omega)
 cases r0 with
 |true=>
  exact ⟨Out.ret,St.mk [(3,.bool false)] [Z1g4 left],⟨rfl,_,rfl,by first|(intro h;cases h;done)|(intro _;exact hs1' rfl)⟩,gA 0 [.call (.bool true) [] []] [3] [K1 100000] (by kernel_rfl) (aC3 (show IntKind.wrap .i64 (left-1)=left-1 from wrap64_id (by omega) (by omega)) hs1 rT)⟩
 |false=>
  exact ⟨Out.ret,St.mk [(3,.bool true)] [Z1g4 left],⟨rfl,_,rfl,by first|(intro h;cases h;done)|(intro _;exact hs1' rfl)⟩,gA 0 [.call (.bool false) [] []] [3] [K1 100000] (by kernel_rfl) (aC3 (show IntKind.wrap .i64 (left-1)=left-1 from wrap64_id (by omega) (by omega)) hs1 rT)⟩
theorem k228p (G:Int→Prop) (x:Ex) (left:Int) (hl:1≤left) (hl2:left≤100) (k190:∀(l:Int),0≤l→l≤100→∃rb,Sp 190 [.agg x.cells,.int .i64 l] [] (.bool rb) []∧(rb=true→G l)):∃rb:Bool,Sp 228 [.agg x.cells,.elt 100000 0 0] [Z1g4 left] (.bool rb) []∧(rb=false→G (left-1)):=by
 obtain ⟨e,t,⟨rfl,rn,rfl,hg⟩,h⟩:=b228p G x left hl hl2 k190
 exact ⟨rn,sT Tryz.f228 (by intro id o hm;simp at hm;obtain ⟨rfl,rfl⟩:=hm;rfl) h (.inr rfl),hg⟩
theorem terms_leaf {x:Ex} {left:Int} (h:(x.kids.map Ex.av).length=0) (h1:1≤left):x.terms.length<2^left.toNat:=by
 obtain ⟨o,t,ks⟩:=x
 have:ks=[]:=by cases ks with
  |nil=>rfl
  |cons a b=>simp [Ex.kids] at h
 subst this
 show 1<2^left.toNat
 exact Nat.one_lt_two_pow (by omega)
theorem terms_few {N:Nat}:∀(l:List Ex),(∀y,y∈l→y.terms.length<N)→(Ex.termsL l).length+l.length≤l.length*N
 |[],_=>by simp [Ex.termsL]
 |e::r,h=>by
  have h1:=h e (by simp)
  have h2:=terms_few r (fun y hy=>h y (by simp [hy]))
  simp only [Ex.termsL,List.length_append,List.length_cons,Nat.succ_mul]
  omega
theorem terms_node {x:Ex} {left:Int} (h:(x.kids.map Ex.av).length≤2) (h1:1≤left) (hg:∀y,y∈x.kids→y.terms.length<2^(left-1).toNat):x.terms.length<2^left.toNat:=by
 obtain ⟨o,t,ks⟩:=x
 have h2:=terms_few ks hg
 have e:left.toNat=(left-1).toNat+1:=by omega
 rw [e,Nat.pow_succ]
 have hk:ks.length≤2:=by simpa [Ex.kids] using h
 have hp:1≤2^(left-1).toNat:=Nat.one_le_two_pow
 show (t::Ex.termsL ks).length<_
 simp only [List.length_cons]
 generalize 2^(left-1).toNat=N at*
 have h3:ks.length*N≤2*N:=Nat.mul_le_mul_right N hk
 rcases Nat.lt_or_ge ks.length 1 with h4|h4
 ·have h5:ks.length=0:=by omega
  rw [h5,Nat.zero_mul] at h2
  omega
 ·rcases Nat.lt_or_ge ks.length 2 with h6|h6
  ·have h5:ks.length=1:=by omega
   rw [h5,Nat.one_mul] at h2
   omega
  ·omega
theorem b190zp:En 37 (bodyOf Tryz.f190) ⟨[Z1g8 x,(1,.int .i64 0)],[]⟩ (fun e t=>e= .ret∧t=⟨[Z1g7],[(100000,.var [.int .i64 0])]⟩):=by
 exact gE ⟨rfl,rfl⟩ 99997 [.is true] [4] [K1 100000] (aC2 rT rT)
theorem b190p (left:Int) (hne:left≠0) (hge:1≤left) (k228:∀(y:Ex),y∈x.kids→∃rb,Sp 228 [.agg y.cells,.elt 100000 0 0] [Z1g4 left] (.bool rb) []∧(rb=false→y.terms.length<2^(left-1).toNat)):En 37 (bodyOf Tryz.f190) ⟨[Z1g8 x,(1,.int .i64 left)],[]⟩ (fun e t=>e= .ret∧∃rb:Bool,t=⟨[(4,.bool rb)],[Z1g4 left]⟩∧(rb=true→x.terms.length<2^left.toNat)):=by
 rcases bft (decide (Ex.op x=0)) with h0|h0
 ·rcases bft (decide ((↑(List.length (List.map Ex.av (Ex.kids x))):Int)=0)) with h1|h1
  ·obtain ⟨r2,hs3⟩:=k144 (Ex.t x)
   cases r2 with
   |true=>
    exact ⟨Out.ret,St.mk [(4,.bool true)] [Z1g4 left],⟨rfl,_,rfl,by first|(intro h;cases h;done)|(intro _;refine terms_leaf ?_ hge;simp_all;done)|(intro _;refine terms_node ?_ hge (hs7' rfl);simp_all;omega)⟩,gA 99997 [.is false,.is true,.is true,.call (.bool true) [] []] [4] [K1 100000] (by kernel_rfl) (aC5 (show decide (left=0)=false from decide_eq_false (by omega)) h0 h1 hs3 rT)⟩
   |false=>
    exact ⟨Out.ret,St.mk [Z1g7] [Z1g4 left],⟨rfl,_,rfl,by first|(intro h;cases h;done)|(intro _;refine terms_leaf ?_ hge;simp_all;done)|(intro _;refine terms_node ?_ hge (hs7' rfl);simp_all;omega)⟩,gA 99997 [.is false,.is true,.is true,.call (.bool false) [] []] [4] [K1 100000] (by kernel_rfl) (aC5 (show decide (left=0)=false from decide_eq_false (by omega)) h0 h1 hs3 rT)⟩
  ·exact ⟨Out.ret,St.mk [Z1g7] [Z1g4 left],⟨rfl,_,rfl,by first|(intro h;cases h;done)|(intro _;refine terms_leaf ?_ hge;simp_all;done)|(intro _;refine terms_node ?_ hge (hs7' rfl);simp_all;omega)⟩,gA 99997 [.is false,.is true,.is false] [4] [K1 100000] (by kernel_rfl) (aC4 (show decide (left=0)=false from decide_eq_false (by omega)) h0 h1 rT)⟩
 ·obtain ⟨r1,hs2⟩:=k145 (Ex.t x)
  cases r1 with
  |true=>
   obtain ⟨r3,⟨hs4,hs4'⟩⟩:=k226p (Ex.op x)
   rcases bft (decide ((↑(List.length (List.map Ex.av (Ex.kids x))):Int)=r3)) with h5|h5
   ·obtain ⟨r6,⟨hs7,hs7'⟩⟩:=k227p _ (Ex.kids x) (left) (by assumption) (by simp at*;omega)
    cases r6 with
    |true=>
     exact ⟨Out.ret,St.mk [Z1g7] [Z1g4 left],⟨rfl,_,rfl,by first|(intro h;cases h;done)|(intro _;refine terms_leaf ?_ hge;simp_all;done)|(intro _;refine terms_node ?_ hge (hs7' rfl);simp_all;omega)⟩,gA 99997 [.is false,.is false,.call (.bool true) [] [],.call (.int .i64 r3) [] [],.is false,.call (.bool true) [100000] []] [4] [K1 100000] (by kernel_rfl) (aC7 (show decide (left=0)=false from decide_eq_false (by omega)) h0 hs2 hs4 (nF h5) hs7 rT)⟩
    |false=>
     exact ⟨Out.ret,St.mk [(4,.bool true)] [Z1g4 left],⟨rfl,_,rfl,by first|(intro h;cases h;done)|(intro _;refine terms_leaf ?_ hge;simp_all;done)|(intro _;refine terms_node ?_ hge (hs7' rfl);simp_all;omega)⟩,gA 99997 [.is false,.is false,.call (.bool true) [] [],.call (.int .i64 r3) [] [],.is false,.call (.bool false) [100000] []] [4] [K1 100000] (by kernel_rfl) (aC7 (show decide (left=0)=false from decide_eq_false (by omega)) h0 hs2 hs4 (nF h5) hs7 rT)⟩
   ·exact ⟨Out.ret,St.mk [Z1g7] [Z1g4 left],⟨rfl,_,rfl,by first|(intro h;cases h;done)|(intro _;refine terms_leaf ?_ hge;simp_all;done)|(intro _;refine terms_node ?_ hge (hs7' rfl);simp_all;omega)⟩,gA 99997 [.is false,.is false,.call (.bool true) [] [],.call (.int .i64 r3) [] [],.is true] [4] [K1 100000] (by kernel_rfl) (aC6 (show decide (left=0)=false from decide_eq_false (by omega)) h0 hs2 hs4 (nT h5) rT)⟩
  |false=>
   exact ⟨Out.ret,St.mk [Z1g7] [Z1g4 left],⟨rfl,_,rfl,by first|(intro h;cases h;done)|(intro _;refine terms_leaf ?_ hge;simp_all;done)|(intro _;refine terms_node ?_ hge (hs7' rfl);simp_all;omega)⟩,gA 99997 [.is false,.is false,.call (.bool false) [] []] [4] [K1 100000] (by kernel_rfl) (aC4 (show decide (left=0)=false from decide_eq_false (by omega)) h0 hs2 rT)⟩
mutual
theorem k190p:∀(x:Ex) (left:Int),0≤left→left≤100→∃rb,Sp 190 [.agg x.cells,.int .i64 left] [] (.bool rb) []∧(rb=true→x.terms.length<2^left.toNat)
 | .mk o t ks,left,h0,h1=>by
   by_cases hz:left=0
   ·subst hz
    obtain ⟨e,t',⟨rfl,rfl⟩,h⟩:=b190zp (.mk o t ks)
    exact ⟨false,sQ Tryz.f190 h,fun h=>by cases h⟩
   ·obtain ⟨e,t',⟨rfl,rb,rfl,hg⟩,h⟩:=b190p (.mk o t ks) left hz (by omega) (fun y hy=>k228p (fun l=>y.terms.length<2^l.toNat) y left (by omega) h1 (fun l a b=>k190sp ks l a b y hy))
    exact ⟨rb,sQ Tryz.f190 h,hg⟩
theorem k190sp:∀(l:List Ex) (left:Int),0≤left→left≤100→∀(y:Ex),y∈l→∃rb,Sp 190 [.agg y.cells,.int .i64 left] [] (.bool rb) []∧(rb=true→y.terms.length<2^left.toNat)
 |[],_,_,_,y,hy=>by simp at hy
 |x::r,left,h0,h1,y,hy=>by
  rcases List.mem_cons.1 hy with e|e
  ·rw [e];exact k190p x left h0 h1
  ·exact k190sp r left h0 h1 y e
end
abbrev Z1g9:Nat×AV:=(2,.int .i64 40)
theorem b147p:En 6 (bodyOf Tryz.f147) ⟨[Z1g8 x],[]⟩ (fun e t=>e= .ret∧∃rn:Int,t=(Z1ga rn)∧(rn=0→x.terms.length<256)):=by
 obtain ⟨r0,⟨hs1,hs1'⟩⟩:=k190p x 8 (by omega) (by omega)
 cases r0 with
 |true=>
  have hs2:=k90 true
  exact ⟨Out.ret,St.mk [(2,.int .i64 0)] [],⟨rfl,_,rfl,by first|(intro h;exact hs1' rfl)|(intro h;cases h;done)|(intro h;simp at h;done)⟩,gA 0 [.call (.bool true) [] [],.call (.int .i64 0) [] []] [2] [] (by kernel_rfl) (aC2 hs1 hs2)⟩
 |false=>
  have hs2:=k90 false
  exact ⟨Out.ret,St.mk [Z1g9] [],⟨rfl,_,rfl,by first|(intro h;exact hs1' rfl)|(intro h;cases h;done)|(intro h;simp at h;done)⟩,gA 0 [.call (.bool false) [] [],.call (.int .i64 40) [] []] [2] [] (by kernel_rfl) (aC2 hs1 hs2)⟩
theorem k147p:∃rn:Int,Sp 147 [.agg x.cells] [] (.int .i64 rn) []∧(rn=0→x.terms.length<256):=by
 obtain ⟨e,t,⟨rfl,rn,rfl,hg⟩,h⟩:=b147p x
 exact ⟨rn,sQ Tryz.f147 h,hg⟩
theorem b77p (p:ByteArray) (ts:List Tm):En 19 (bodyOf Tryz.f77) ⟨[(0,atA p ts)],[]⟩ (fun e t=>e= .ret∧∃rn:Int,t=(Z1ga rn)∧(rn=0→ts.length≤24∧p.size≤120)):=by
 obtain ⟨r0,⟨hs1,hs1'⟩⟩:=k87p p
 cases r0 with
 |true=>
  rcases bft (decide ((↑(List.length (List.map Tm.av ts)):Int)≤24)) with h2|h2
  ·obtain ⟨r3,hs4⟩:=k123 ts
   cases r3 with
   |true=>
    have hs5:=k90 false
    exact ⟨Out.ret,St.mk [Z1g9] [],⟨rfl,_,rfl,by first|(intro h;cases h;done)|(intro h;simp at h;done)|(intro h;simp_all;done)|(intro h;simp_all;omega)⟩,gA 0 [.call (.bool true) [] [],.is true,.call (.bool true) [] [],.call (.int .i64 40) [] []] [2] [] (by kernel_rfl) (aC4 hs1 h2 hs4 hs5)⟩
   |false=>
    have hs5:=k90 true
    exact ⟨Out.ret,St.mk [(2,.int .i64 0)] [],⟨rfl,_,rfl,by first|(intro h;cases h;done)|(intro h;simp at h;done)|(intro h;simp_all;done)|(intro h;simp_all;omega)⟩,gA 0 [.call (.bool true) [] [],.is true,.call (.bool false) [] [],.call (.int .i64 0) [] []] [2] [] (by kernel_rfl) (aC4 hs1 h2 hs4 hs5)⟩
  ·have hs3:=k90 false
   exact ⟨Out.ret,St.mk [Z1g9] [],⟨rfl,_,rfl,by first|(intro h;cases h;done)|(intro h;simp at h;done)|(intro h;simp_all;done)|(intro h;simp_all;omega)⟩,gA 0 [.call (.bool true) [] [],.is false,.call (.int .i64 40) [] []] [2] [] (by kernel_rfl) (aC3 hs1 h2 hs3)⟩
 |false=>
  have hs2:=k90 false
  exact ⟨Out.ret,St.mk [Z1g9] [],⟨rfl,_,rfl,by first|(intro h;cases h;done)|(intro h;simp at h;done)|(intro h;simp_all;done)|(intro h;simp_all;omega)⟩,gA 0 [.call (.bool false) [] [],.call (.int .i64 40) [] []] [2] [] (by kernel_rfl) (aC2 hs1 hs2)⟩
theorem k77p (p:ByteArray) (ts:List Tm):∃rn:Int,Sp 77 [atA p ts] [] (.int .i64 rn) []∧(rn=0→ts.length≤24∧p.size≤120):=by
 obtain ⟨e,t,⟨rfl,rn,rfl,hg⟩,h⟩:=b77p p ts
 exact ⟨rn,sP Tryz.f77 (by simp [noIdsL,noIds,atA,atC]) h (.inr rfl),hg⟩
theorem b146p:En 17 (bodyOf Tryz.f146) ⟨[Z1g8 x],[]⟩ (fun e t=>e= .ret∧∃rb:Bool,t=⟨[(2,.bool rb)],[]⟩∧(rb=true→x.terms.length<2^(1:Int).toNat)):=by
 rcases bft (decide (Ex.op x=0)) with h0|h0
 ·obtain ⟨r1,hs2⟩:=k145 (Ex.t x)
  cases r1 with
  |true=>
   rcases bft (decide ((↑(List.length (List.map Ex.av (Ex.kids x))):Int)=0)) with h3|h3
   ·exact ⟨Out.ret,St.mk [(2,.bool true)] [],⟨rfl,_,rfl,by first|(intro h;cases h;done)|(intro h;refine terms_leaf ?_ (by omega);simp_all;done)⟩,gA 0 [.is true,.call (.bool true) [] [],.is true] [2] [] (by kernel_rfl) (aC3 h0 hs2 h3)⟩
   ·exact ⟨Out.ret,St.mk [Z1g1] [],⟨rfl,_,rfl,by first|(intro h;cases h;done)|(intro h;refine terms_leaf ?_ (by omega);simp_all;done)⟩,gA 0 [.is true,.call (.bool true) [] [],.is false] [2] [] (by kernel_rfl) (aC3 h0 hs2 h3)⟩
  |false=>
   exact ⟨Out.ret,St.mk [Z1g1] [],⟨rfl,_,rfl,by first|(intro h;cases h;done)|(intro h;refine terms_leaf ?_ (by omega);simp_all;done)⟩,gA 0 [.is true,.call (.bool false) [] []] [2] [] (by kernel_rfl) (aC2 h0 hs2)⟩
 ·exact ⟨Out.ret,St.mk [Z1g1] [],⟨rfl,_,rfl,by first|(intro h;cases h;done)|(intro h;refine terms_leaf ?_ (by omega);simp_all;done)⟩,gA 0 [.is false] [2] [] (by kernel_rfl) (aC1 h0)⟩
theorem k146p:∃rb:Bool,Sp 146 [.agg x.cells] [] (.bool rb) []∧(rb=true→x.terms.length<2):=by
 obtain ⟨e,t,⟨rfl,rn,rfl,hg⟩,h⟩:=b146p x
 exact ⟨rn,sQ Tryz.f146 h,hg⟩
theorem b89p (x:Li):En 58 (bodyOf Tryz.f89) ⟨[(0,x.av)],[]⟩ (fun e t=>e= .ret∧∃rn:Int,t=(Z1ga rn)∧(rn=0→x.terms.length<1000∧((x.k=1∨x.k=2)→x.p.size≤120)∧(¬(x.k=1∨x.k=2)→x.p=⟨#[]⟩))):=by
 rcases bft (decide (Li.k x=1)) with h0|h0
 ·rcases bft (decide (Li.rel x=0)) with h1|h1
  ·obtain ⟨r2,⟨hs3,hs3'⟩⟩:=k146p (Li.l x)
   cases r2 with
   |true=>
    obtain ⟨r4,⟨hs5,hs5'⟩⟩:=k146p (Li.r x)
    cases r4 with
    |true=>
     obtain ⟨r6,⟨hs7,hs7'⟩⟩:=k77p x.2 x.3
     exact ⟨Out.ret,St.mk [(2,.int .i64 r6)] [],⟨rfl,_,rfl,by first|(intro h;cases h;done)|(intro h;simp at h;done)|(intro h;subst h;simp only [Li.terms,List.length_append];simp_all;omega)⟩,gA 0 [.is true,.is false,.call (.bool true) [] [],.call (.bool true) [] [],.call (.int .i64 r6) [] []] [2] [] (by kernel_rfl) (aC5 h0 (nF h1) hs3 hs5 hs7)⟩
    |false=>
     exact ⟨Out.ret,St.mk [Z1g9] [],⟨rfl,_,rfl,by first|(intro h;cases h;done)|(intro h;simp at h;done)|(intro h;subst h;simp only [Li.terms,List.length_append];simp_all;omega)⟩,gA 0 [.is true,.is false,.call (.bool true) [] [],.call (.bool false) [] []] [2] [] (by kernel_rfl) (aC4 h0 (nF h1) hs3 hs5)⟩
   |false=>
    exact ⟨Out.ret,St.mk [Z1g9] [],⟨rfl,_,rfl,by first|(intro h;cases h;done)|(intro h;simp at h;done)|(intro h;subst h;simp only [Li.terms,List.length_append];simp_all;omega)⟩,gA 0 [.is true,.is false,.call (.bool false) [] []] [2] [] (by kernel_rfl) (aC3 h0 (nF h1) hs3)⟩
  ·exact ⟨Out.ret,St.mk [Z1g9] [],⟨rfl,_,rfl,by first|(intro h;cases h;done)|(intro h;simp at h;done)|(intro h;subst h;simp only [Li.terms,List.length_append];simp_all;omega)⟩,gA 0 [.is true,.is true] [2] [] (by kernel_rfl) (aC2 h0 (nT h1))⟩
 ·rcases bft (decide (Li.k x=2)) with h1|h1
  ·rcases bft (decide (Li.rel x=0)) with h2|h2
   ·obtain ⟨r3,⟨hs4,hs4'⟩⟩:=k146p (Li.l x)
    cases r3 with
    |true=>
     obtain ⟨r5,⟨hs6,hs6'⟩⟩:=k146p (Li.r x)
     cases r5 with
     |true=>
      obtain ⟨r7,⟨hs8,hs8'⟩⟩:=k77p x.2 x.3
      exact ⟨Out.ret,St.mk [(2,.int .i64 r7)] [],⟨rfl,_,rfl,by first|(intro h;cases h;done)|(intro h;simp at h;done)|(intro h;subst h;simp only [Li.terms,List.length_append];simp_all;omega)⟩,gA 0 [.is false,.is true,.is false,.call (.bool true) [] [],.call (.bool true) [] [],.call (.int .i64 r7) [] []] [2] [] (by kernel_rfl) (aC6 h0 h1 (nF h2) hs4 hs6 hs8)⟩
     |false=>
      exact ⟨Out.ret,St.mk [Z1g9] [],⟨rfl,_,rfl,by first|(intro h;cases h;done)|(intro h;simp at h;done)|(intro h;subst h;simp only [Li.terms,List.length_append];simp_all;omega)⟩,gA 0 [.is false,.is true,.is false,.call (.bool true) [] [],.call (.bool false) [] []] [2] [] (by kernel_rfl) (aC5 h0 h1 (nF h2) hs4 hs6)⟩
    |false=>
     exact ⟨Out.ret,St.mk [Z1g9] [],⟨rfl,_,rfl,by first|(intro h;cases h;done)|(intro h;simp at h;done)|(intro h;subst h;simp only [Li.terms,List.length_append];simp_all;omega)⟩,gA 0 [.is false,.is true,.is false,.call (.bool false) [] []] [2] [] (by kernel_rfl) (aC4 h0 h1 (nF h2) hs4)⟩
   ·exact ⟨Out.ret,St.mk [Z1g9] [],⟨rfl,_,rfl,by first|(intro h;cases h;done)|(intro h;simp at h;done)|(intro h;subst h;simp only [Li.terms,List.length_append];simp_all;omega)⟩,gA 0 [.is false,.is true,.is true] [2] [] (by kernel_rfl) (aC3 h0 h1 (nT h2))⟩
  ·rcases bft (decide (Li.k x=3)) with h2|h2
   ·rcases bft (decide (Li.p x=ByteArray.mk #[])) with h3|h3
    ·rcases bft (decide (0<(↑(List.length (List.map Tm.av (Li.ts x))):Int))) with h4|h4
     ·exact ⟨Out.ret,St.mk [Z1g9] [],⟨rfl,_,rfl,by first|(intro h;cases h;done)|(intro h;simp at h;done)|(intro h;subst h;simp only [Li.terms,List.length_append];simp_all;omega)⟩,gA 0 [.is false,.is false,.is true,.is false,.is true] [2] [] (by kernel_rfl) (aC5 h0 h1 h2 (nF h3) h4)⟩
     ·rcases bft (decide (Li.rel x<1)) with h5|h5
      ·exact ⟨Out.ret,St.mk [Z1g9] [],⟨rfl,_,rfl,by first|(intro h;cases h;done)|(intro h;simp at h;done)|(intro h;subst h;simp only [Li.terms,List.length_append];simp_all;omega)⟩,gA 0 [.is false,.is false,.is true,.is false,.is false,.is true] [2] [] (by kernel_rfl) (aC6 h0 h1 h2 (nF h3) h4 h5)⟩
      ·rcases bft (decide (6<Li.rel x)) with h6|h6
       ·exact ⟨Out.ret,St.mk [Z1g9] [],⟨rfl,_,rfl,by first|(intro h;cases h;done)|(intro h;simp at h;done)|(intro h;subst h;simp only [Li.terms,List.length_append];simp_all;omega)⟩,gA 0 [.is false,.is false,.is true,.is false,.is false,.is false,.is true] [2] [] (by kernel_rfl) (aC7 h0 h1 h2 (nF h3) h4 h5 h6)⟩
       ·obtain ⟨r7,⟨hs8,hs8'⟩⟩:=k147p (Li.l x)
        rcases bft (decide (r7=0)) with h9|h9
        ·obtain ⟨r10,⟨hs11,hs11'⟩⟩:=k147p (Li.r x)
         exact ⟨Out.ret,St.mk [(2,.int .i64 r10)] [],⟨rfl,_,rfl,by first|(intro h;cases h;done)|(intro h;simp at h;done)|(intro h;subst h;simp only [Li.terms,List.length_append];simp_all;omega)⟩,gA 0 [.is false,.is false,.is true,.is false,.is false,.is false,.is false,.call (.int .i64 r7) [] [],.is false,.call (.int .i64 r10) [] []] [2] [] (by kernel_rfl) (aC10 h0 h1 h2 (nF h3) h4 h5 h6 hs8 (nF h9) hs11)⟩
        ·exact ⟨Out.ret,St.mk [Z1g9] [],⟨rfl,_,rfl,by first|(intro h;cases h;done)|(intro h;simp at h;done)|(intro h;subst h;simp only [Li.terms,List.length_append];simp_all;omega)⟩,gA 0 [.is false,.is false,.is true,.is false,.is false,.is false,.is false,.call (.int .i64 r7) [] [],.is true] [2] [] (by kernel_rfl) (aC9 h0 h1 h2 (nF h3) h4 h5 h6 hs8 (nT h9))⟩
    ·exact ⟨Out.ret,St.mk [Z1g9] [],⟨rfl,_,rfl,by first|(intro h;cases h;done)|(intro h;simp at h;done)|(intro h;subst h;simp only [Li.terms,List.length_append];simp_all;omega)⟩,gA 0 [.is false,.is false,.is true,.is true] [2] [] (by kernel_rfl) (aC4 h0 h1 h2 (nT h3))⟩
   ·exact ⟨Out.ret,St.mk [Z1g9] [],⟨rfl,_,rfl,by first|(intro h;cases h;done)|(intro h;simp at h;done)|(intro h;subst h;simp only [Li.terms,List.length_append];simp_all;omega)⟩,gA 0 [.is false,.is false,.is false] [2] [] (by kernel_rfl) (aC3 h0 h1 h2)⟩
theorem k89p (x:Li):∃rn:Int,Sp 89 [x.av] [] (.int .i64 rn) []∧(rn=0→x.terms.length<1000∧((x.k=1∨x.k=2)→x.p.size≤120)∧(¬(x.k=1∨x.k=2)→x.p=⟨#[]⟩)):=by
 obtain ⟨e,t,⟨rfl,rn,rfl,hg⟩,h⟩:=b89p x
 exact ⟨rn,sP Tryz.f89 (by simp [noIdsL,noIds_li]) h (.inr rfl),hg⟩
end
section
variable (p:ByteArray) (hd:List Ar) (bd:List Li) (ts:List Tm) (i:Nat) (v:ByteArray) (rest:List AV) (l:List ByteArray)
abbrev Z1h0:Nat×AV:=(0,.tptr (.str v::rest))
abbrev Z1h1:Nat×AV:=(1,.elt 100004 0 0)
abbrev Z1h2:Nat×AV:=(2,.elt 100003 0 0)
abbrev Z1h3:Nat×Ob:=(100004,.var [.map 100005])
theorem w94a (h1:decide (v=ByteArray.mk #[])=false) (h2:decide (v=ByteArray.mk #[95])=false):EN 39 (bodyOf Tryz.f94) ⟨[Z1h0 v rest,Z1h1,Z1h2],[(100003,.var [.nils]),Z1h3,(100005,.map [] [])]⟩ ⟨[],[(100003,.var [.row 60031 0 1]),Z1h3,(100005,.map [.str v] [.int .i64 1]),(60031,.row 1 [.str v])]⟩:=by
 exact gE ⟨rfl,rfl⟩ 60000 [.is false,.is false,.is false,.is false,.is true] [] [K0 100003,K0 100004,K1 100005,K1 60031] (aC8 h1 h2 (show (some none:Option (Option Nat))=some none from rfl) rF (show 1≤List.length [AV.str v]∧[AV.str v]≠[]∧(∀(e:AV),e∈[AV.str v]→okE 1 e)∧(∀(e:AV),e∈[]→okE 1 e)∧(↑(0+List.length [AV.str v]):Int)*16≤140737488355328∧0+List.length [AV.str v]≤9223372036854775807 from by simp) (show True from by simp) rTT rT)
theorem zsxxbs (l:List ByteArray) (v:ByteArray):noIdsL (List.map AV.str l++[AV.str v])=true∧noIdsL (pos l++[AV.int .i64 (↑(List.length (l.map AV.str)+List.length [AV.str v]):Int)])=true:=by simp
theorem zswnnl (l:List ByteArray) (v:ByteArray):noIdsL (List.map AV.str l++[AV.str v])=true:=by simp
abbrev Z1h4:Nat×Ob:=(100005,.map (l.map AV.str) (pos l))
theorem w94b (v:ByteArray) (rest:List AV) (h1:decide (v=ByteArray.mk #[])=false) (h2:decide (v=ByteArray.mk #[95])=false) (hf:findA true (.str v) (l.map AV.str) 0=some none) (hl:l.length<8796093022208):EN 39 (bodyOf Tryz.f94) ⟨[Z1h0 v rest,Z1h1,Z1h2],[(100003,.var [.row 60500 0 (l.map AV.str).length]),Z1h3,Z1h4 l,(60500,.row 1 (l.map AV.str))]⟩ ⟨[],[(100003,.var [.row 60031 0 ((l.map AV.str).length+1)]),Z1h3,(100005,.map (l.map AV.str++[.str v]) (pos l++[.int .i64 (((l.map AV.str).length+1:Nat):Int)])),(60031,.row 1 (l.map AV.str++[.str v]))]⟩:=by
 exact gE ⟨rfl,rfl⟩ 60000 [.is false,.is false,.is false,.is false,.elt (.int .i64 60031),.is false] [] [K0 100003,K0 100004,K1 100005,K1 60031] (aC8 h1 h2 hf rF (show (1:Nat)≤List.length [AV.str v]∧(0:Nat)=(0:Nat)∧List.length (l.map AV.str)=List.length (l.map AV.str)∧(∀(e:AV),e∈[AV.str v]→okE (1:Nat) e)∧(∀(e:AV),e∈List.map AV.str l→okE (1:Nat) e)∧(↑(List.length (l.map AV.str)+List.length [AV.str v]):Int)*(16:Int)≤(140737488355328:Int)∧List.length (l.map AV.str)+List.length [AV.str v]≤(9223372036854775807:Nat) from by simp;omega) hf (zsxxbs l v) (zswnnl l v))
theorem zsq6af (l:List ByteArray):noIdsL (l.map AV.str)=true∧noIdsL (pos l)=true:=by simp
theorem w94c (v:ByteArray) (rest:List AV) (j:Nat) (h1:decide (v=ByteArray.mk #[])=false) (h2:decide (v=ByteArray.mk #[95])=false) (hf:∃i,findA true (.str v) (l.map AV.str) 0=some (some i)∧(pos l)[i]? =some (.int .i64 ((j+1:Nat):Int))):En 39 (bodyOf Tryz.f94) ⟨[Z1h0 v rest,Z1h1,Z1h2],vp l⟩ (fun e t=>e= .ret∧t=⟨[],vp l⟩):=by
 exact gE ⟨rfl,rfl⟩ 60000 [.is false,.is false,.elt (.int .i64 (↑(j+1):Int)),.is true] [] [K0 100003,K0 100004,K1 100005] (aC5 h1 h2 hf (show decide (0<(↑(j+1):Int))=true from decide_eq_true (by omega)) (zsq6af l))
theorem w94d (v:ByteArray) (rest:List AV) (h1:decide (v=ByteArray.mk #[])=true):En 39 (bodyOf Tryz.f94) ⟨[Z1h0 v rest,Z1h1,Z1h2],vp l⟩ (fun e t=>e= .ret∧t=⟨[],vp l⟩):=by
 exact gE ⟨rfl,rfl⟩ 60000 [.is true] [] [K0 100003,K0 100004,K1 100005] (aC2 h1 (zsq6af l))
theorem w94e (v:ByteArray) (rest:List AV) (h1:decide (v=ByteArray.mk #[])=false) (h2:decide (v=ByteArray.mk #[95])=true):En 39 (bodyOf Tryz.f94) ⟨[Z1h0 v rest,Z1h1,Z1h2],vp l⟩ (fun e t=>e= .ret∧t=⟨[],vp l⟩):=by
 exact gE ⟨rfl,rfl⟩ 60000 [.is false,.is true] [] [K0 100003,K0 100004,K1 100005] (aC3 h1 h2 (zsq6af l))
theorem close94 {P:Program} {n m:Nat} {c:Code} {st:St} {e:Out} {ks vs es:List AV} (h:Runs P n c st e ⟨[],[(100003,.var [.row 60031 0 m]),Z1h3,(100005,.map ks vs),(60031,.row 1 es)]⟩)
  (hm:m=es.length) (h0:0<m) (h1:noIdsL es=true) (h2:noIdsL ks=true) (h3:noIdsL vs=true):Runs P n c st e ⟨[],[(100003,.var [.own 1 es]),Z1h3,(100005,.map ks vs)]⟩:=by
 subst hm
 have ht:es.take es.length=es:=List.take_length
 have a:=h.post (le_close (n:=n) (st:=⟨[],[(100003,.var [.row 60031 0 es.length]),Z1h3,(100005,.map ks vs),(60031,.row 1 es)]⟩) 100003 0 60031 (o:= .var [.row 60031 0 es.length]) rfl rfl rfl h0 (Nat.le_refl _) (by rw [ht];exact h1) (by simp [mid]))
 rw [ht] at a
 exact a.keepR [] [K0 100003,K0 100004,K1 100005] (cs:=[noIdsL ks=true∧noIdsL vs=true]) rfl ⟨⟨h2,h3⟩,trivial⟩
theorem r94 (v:ByteArray) (rest:List AV) (hl:l.length<8796093022208):
  ∃e,(e= .normal∨e= .ret)∧Rz 39 (bodyOf Tryz.f94) ⟨[Z1h0 v rest,Z1h1,Z1h2],vp l⟩ e ⟨[],vp (addV l v)⟩:=by
 by_cases h1:v=⟨#[]⟩
 ·obtain ⟨e,t,⟨rfl,rfl⟩,h⟩:=w94d l v rest (decide_eq_true h1)
  have:addV l v=l:=by unfold addV;rw [if_pos (.inl h1)]
  rw [this];exact ⟨_,.inr rfl,h⟩
 ·by_cases h2:v=⟨#[95]⟩
  ·obtain ⟨e,t,⟨rfl,rfl⟩,h⟩:=w94e l v rest (decide_eq_false h1) (decide_eq_true h2)
   have:addV l v=l:=by unfold addV;rw [if_pos (.inr (.inl h2))]
   rw [this];exact ⟨_,.inr rfl,h⟩
  ·by_cases h3:v∈l
   ·have:addV l v=l:=by unfold addV;rw [if_pos (.inr (.inr h3))]
    rw [this]
    obtain ⟨j,hf,hj⟩:=findA_some (i:=0) h3
    rw [Nat.zero_add] at hf
    have hjl:j<l.length:=(List.getElem?_eq_some_iff.1 hj).1
    obtain ⟨e,t,⟨rfl,rfl⟩,h⟩:=w94c l v rest j (decide_eq_false h1) (decide_eq_false h2) ⟨j,hf,pos_get hjl⟩
    exact ⟨_,.inr rfl,h⟩
   ·have:addV l v=l++[v]:=by unfold addV;rw [if_neg (by simp [h1,h2,h3])]
    rw [this]
    refine ⟨.normal,.inl rfl,?_⟩
    unfold vp
    rw [pos_app,List.map_append]
    by_cases hn:l=[]
    ·subst hn
     obtain ⟨e,t,⟨rfl,rfl⟩,h⟩:=w94a v rest (decide_eq_false h1) (decide_eq_false h2)
     have k:=close94 h rfl (by simp) rfl rfl rfl
     exact k.pre (le_openNil (st:=⟨_,[(100003,.var [.own 1 []]),Z1h3,(100005,.map [] [])]⟩) 100003 0 (sz:=1) rfl rfl)
    ·obtain ⟨e,t,⟨rfl,rfl⟩,h⟩:=w94b l v rest (decide_eq_false h1) (decide_eq_false h2) (findA_none h3) hl
     have k:=close94 h (by simp) (by simp) (by simp) (by simp) (by simp)
     have k2:=k.pre (le_open (st:=⟨_,[(100003,.var [.own 1 (l.map AV.str)]),Z1h3,Z1h4 l]⟩) 100003 0 60500 (sz:=1) rfl rfl (by simpa using hn) rfl (by simp [mid]))
     simpa using k2
theorem obs_vp:∀id o,(id,o)∈vp l→renOb (idT (vp l)) o=o:=by
 intro id o hm
 simp only [vp,List.mem_cons,Prod.mk.injEq,List.not_mem_nil,or_false] at hm
 rcases hm with ⟨rfl,rfl⟩|⟨rfl,rfl⟩|⟨rfl,rfl⟩
 ·rfl
 ·rfl
 ·simp only [renOb,renL_noIds _ _ (noIdsL_strs l),renL_noIds _ _ (noIdsL_pos l)]
theorem k94 (v:ByteArray) (rest:List AV) (hl:l.length<8796093022208):Sp 94 [.tptr (.str v::rest),.elt 100004 0 0,.elt 100003 0 0] (vp l) (.tup []) (vp (addV l v)):=by
 obtain ⟨e,he,h⟩:=r94 l v rest hl
 exact sG Tryz.f94 (obs_vp l) h he
theorem flatM_take {α β:Type} (T:α→List β) {xs:List α} {i:Nat} {y:α} (h:xs[i]? =some y):(xs.take (i+1)).flatMap T=(xs.take i).flatMap T++T y:=by
 have hlt:i<xs.length:=(List.getElem?_eq_some_iff.1 h).1
 have e:xs[i]=y:=by rw [List.getElem?_eq_getElem hlt] at h;exact Option.some.inj h
 rw [List.take_succ_eq_append_getElem hlt,List.flatMap_append,e];simp
theorem flatM_len {α β:Type} (T:α→List β) {xs:List α} {i:Nat} {y:α} (h:xs[i]? =some y):((xs.take i).flatMap T).length+(T y).length≤(xs.flatMap T).length:=by
 have h2:xs.flatMap T=(xs.take (i+1)).flatMap T++(xs.drop (i+1)).flatMap T:=by rw [←List.flatMap_append,List.take_append_drop]
 rw [h2,flatM_take T h];simp only [List.length_append];omega
theorem fold_loop {P:Program} {n k:Nat} {c:Code} {α:Type} (T:α→List Tm) (xs:List α) (env:Nat→List (Nat×AV)) (envE:List (Nat×AV)) (l:List ByteArray) (hB:l.length+(xs.flatMap T).length<8796093022208)
  (turn:∀(i:Nat) (l':List ByteArray),i<xs.length→(∀y,xs[i]? =some y→l'.length+(T y).length<8796093022208)→Ends P n c ⟨env i,vp l'⟩ (fun e t=>e= .normal∧∃y,xs[i]? =some y∧t=⟨env (i+1),vp (addT l' (T y))⟩))
  (hend:∀(l':List ByteArray),Ends P n c ⟨env xs.length,vp l'⟩ (fun e t=>e= .exit k∧t=⟨envE,vp l'⟩)):Loops P n c ⟨env 0,vp l⟩ (.exit k) ⟨envE,vp (addT l (xs.flatMap T))⟩:=by
 have h:=Loops.from (P:=P) (n:=n) (c:=c) (e:= .exit k) (st':=⟨envE,vp (addT l (xs.flatMap T))⟩) (st:=fun i=>⟨env i,vp (addT l ((xs.take i).flatMap T))⟩) (N:=xs.length) ?_ ?_
 ·simpa [addT] using h
 ·intro i hi
  obtain ⟨e,t,⟨rfl,y,hy,rfl⟩,h⟩:=turn i (addT l ((xs.take i).flatMap T)) hi (fun y hy=>by
   have:=addT_len ((xs.take i).flatMap T) l
   have:=flatM_len T hy
   omega)
  show Runs P n c ⟨env i,vp (addT l ((xs.take i).flatMap T))⟩ .normal ⟨env (i+1),vp (addT l ((xs.take (i+1)).flatMap T))⟩
  rw [flatM_take T hy,addT_app]
  exact h
 ·obtain ⟨e,t,⟨rfl,rfl⟩,h⟩:=hend (addT l ((xs.take xs.length).flatMap T))
  show Loops P n c ⟨env xs.length,vp (addT l ((xs.take xs.length).flatMap T))⟩ (.exit k) _
  rw [List.take_length] at h⊢
  exact .leave h (by simp)
abbrev Z1h5:Nat×AV:=(10,.tptr (.str p:: .seq (ts.map Tm.av) false::rest))
abbrev Z1h6:Nat×AV:=(106,.int .i64 ((ts.map Tm.av).length:Nat))
abbrev Z1h7:Nat×AV:=(1,.clo 94 [] [.elt 100004 0 0,.elt 100003 0 0])
theorem wa93 (hsm:ts.length≤9223372036854775807) (l:List ByteArray) (i:Nat) (hi:i<ts.length) (hl:l.length<8796093022208):En 119 (loopOf Tryz.f93 3) ⟨[(1,.clo 94 [] [.elt 100004 0 0,.elt 100003 0 0]),Z1h5 p ts rest,Z1h6 ts,(107,.int .i64 (i:Int))],vp l⟩ (fun e t=>e= .normal∧∃y,ts[i]? =some y∧t=⟨[(1,.clo 94 [] [.elt 100004 0 0,.elt 100003 0 0]),Z1h5 p ts rest,Z1h6 ts,(107,.int .i64 ((i+1:Nat):Int))],vp (addT l [y])⟩):=by
 obtain ⟨x0,hm0,hx0⟩:=elt_of Tm.av (l:=ts) (n:=(↑i:Int)) (by omega) (by omega)
 have hs1:=k94 l x0.1 ([AV.int .i8 x0.2,AV.int .i64 x0.3,AV.str x0.4]) (by assumption)
 exact ⟨Out.normal,St.mk [Z1h7,(10,.tptr (.str p::.seq (ts.map Tm.av) false::rest)),(106,.int .i64 (↑(ts.map Tm.av).length:Int)),(107,.int .i64 ((i:Int)+1))] [(100003,.var [.own 1 (List.map AV.str (addV l x0.1))]),Z1h3,(100005,.map (List.map AV.str (addV l x0.1)) (pos (addV l x0.1)))],⟨rfl,x0,hm0,rfl⟩,gA 60000 [.is true,.elt (.agg [.str x0.1,.int .i8 x0.2,.int .i64 x0.3,.str x0.4]),.call (.tup []) [100003,100004,100005] [(100003,.var [.own 1 (List.map AV.str (addV l x0.1))]),Z1h3,(100005,.map (List.map AV.str (addV l x0.1)) (pos (addV l x0.1)))]] [1,10,106,107] [K0 100003,K0 100004,K1 100005] (by kernel_rfl) (aC5 (d1 Tm.av ts i (by omega)) hx0 hs1 (w1 i (by omega)) (show noIdsL (List.map AV.str (addV l x0.1))=true∧noIdsL (pos (addV l x0.1))=true from by simp))⟩
theorem we93:En 119 (loopOf Tryz.f93 3) ⟨[(1,.clo 94 [] [.elt 100004 0 0,.elt 100003 0 0]),Z1h5 p ts rest,Z1h6 ts,(107,.int .i64 ((ts.length:Nat):Int))],vp l⟩ (fun e t=>e= .exit 7∧t=⟨[],vp l⟩):=by
 exact gE ⟨rfl,rfl⟩ 60000 [.is false] [] [K0 100003,K0 100004,K1 100005] (aC2 (zs0bgs ts) (zsq6af l))
theorem l93_3 (hsm:ts.length≤9223372036854775807) (hB:l.length+ts.length<8796093022208):Lo 119 (loopOf Tryz.f93 3) ⟨[(1,.clo 94 [] [.elt 100004 0 0,.elt 100003 0 0]),Z1h5 p ts rest,Z1h6 ts,(107,.int .i64 0)],vp l⟩ (.exit 7) ⟨[],vp (addT l ts)⟩:=by
 have h:=fold_loop (P:=Tryz.prog) (n:=119) (k:=7) (c:=loopOf Tryz.f93 3) (fun t:Tm=>[t]) ts (fun i=>[(1,.clo 94 [] [.elt 100004 0 0,.elt 100003 0 0]),Z1h5 p ts rest,Z1h6 ts,(107,.int .i64 (i:Int))]) [] l (by simpa using hB)
  (fun i l' hi hl=>wa93 p ts rest hsm l' i hi (by have:=hl _ (List.getElem?_eq_getElem hi);simp at this;omega)) (fun l'=>we93 p ts rest l')
 simpa using h
theorem b93a (hsm:ts.length≤9223372036854775807) (hB:l.length+ts.length<8796093022208):EN 119 (bodyOf Tryz.f93) ⟨[(0,.iface 108 (.tptr (.str p:: .seq (ts.map Tm.av) false::rest))),(1,.clo 94 [] [.elt 100004 0 0,.elt 100003 0 0])],vp l⟩ ⟨[],vp (addT l ts)⟩:=by
 have hl0:=l93_3 p ts rest l (by assumption) (by assumption)
 exact gE ⟨rfl,rfl⟩ 60000 [.cut [1,10,106,107] [K1 100003,K0 100004,K1 100005],.sum (.exit 7) [] (vp (addT l ts))] [] [K0 100003,K0 100004,K1 100005] (aC4 rT (zsq6af l) hl0 (show noIdsL (List.map AV.str (addT l ts))=true∧noIdsL (pos (addT l ts))=true from by simp))
theorem k93a (hsm:ts.length≤9223372036854775807) (hB:l.length+ts.length<8796093022208):Sp 93 [.iface 108 (.tptr (.str p:: .seq (ts.map Tm.av) false::rest)),.clo 94 [] [.elt 100004 0 0,.elt 100003 0 0]] (vp l) (.tup []) (vp (addT l ts)):=by
 obtain ⟨e,t,⟨rfl,rfl⟩,h⟩:=b93a p ts rest l hsm hB
 exact sG Tryz.f93 (obs_vp l) h (.inl rfl)
abbrev Z1h8 (x:Ex):Nat×AV:=(8,.tptr (x.cells++rest))
abbrev Z1h9 (x:Ex):Nat×AV:=(85,.int .i64 ((x.kids.map Ex.av).length:Nat))
theorem wx93 (x:Ex) (rest:List AV) (l:List ByteArray) (i:Nat) (hi:i<x.kids.length) (hl:∀(y:Ex),x.kids[i]? =some y→l.length+y.terms.length<8796093022208) (hk:x.kids.length<8796093022208) (k93:∀(y:Ex),y∈x.kids→l.length+y.terms.length<8796093022208→Sp 93 [.iface 198 (.tptr y.cells),.clo 94 [] [.elt 100004 0 0,.elt 100003 0 0]] (vp l) (.tup []) (vp (addT l y.terms))):En 119 (loopOf Tryz.f93 2) ⟨[(1,.clo 94 [] [.elt 100004 0 0,.elt 100003 0 0]),Z1h8 rest x,Z1h9 x,(86,.int .i64 (i:Int))],vp l⟩ (fun e t=>e= .normal∧∃y,x.kids[i]? =some y∧t=⟨[(1,.clo 94 [] [.elt 100004 0 0,.elt 100003 0 0]),Z1h8 rest x,Z1h9 x,(86,.int .i64 ((i+1:Nat):Int))],vp (addT l y.terms)⟩):=by
 obtain ⟨x0,hm0,hx0⟩:=elt_ex (l:=Ex.kids x) (n:=(↑i:Int)) (by omega) (by omega)
 have hs1:=k93 x0 (List.mem_of_getElem? (by assumption)) (hl _ (by assumption))
 exact ⟨Out.normal,St.mk [Z1h7,(8,.tptr (.int .i8 (Ex.op x)::.str (Ex.t x).1::.int .i8 (Ex.t x).2::.int .i64 (Ex.t x).3::.str (Ex.t x).4::.seq (List.map Ex.av (Ex.kids x)) false::rest)),(85,.int .i64 (↑(List.length (List.map Ex.av (Ex.kids x))):Int)),(86,.int .i64 ((i:Int)+1))] [(100003,.var [.own 1 (List.map AV.str (addT l (Ex.terms x0)))]),Z1h3,(100005,.map (List.map AV.str (addT l (Ex.terms x0))) (pos (addT l (Ex.terms x0))))],⟨rfl,x0,hm0,rfl⟩,gA 60000 [.is true,.elt (.agg x0.cells),.call (.tup []) [100003,100004,100005] [(100003,.var [.own 1 (List.map AV.str (addT l (Ex.terms x0)))]),Z1h3,(100005,.map (List.map AV.str (addT l (Ex.terms x0))) (pos (addT l (Ex.terms x0))))]] [1,8,85,86] [K0 100003,K0 100004,K1 100005] (by kernel_rfl) (aC5 (show decide ((i:Int)<(↑(List.length (x.kids.map Ex.av)):Int))=true from by simp;omega) hx0 hs1 (w1 i (by omega)) (show noIdsL (List.map AV.str (addT l (Ex.terms x0)))=true∧noIdsL (pos (addT l (Ex.terms x0)))=true from by simp))⟩
theorem zsq7nn (x:Ex):decide ((↑(List.length (Ex.kids x)):Int)<(↑(List.length (x.kids.map Ex.av)):Int))=false:=by simp
theorem wy93 (x:Ex) (rest:List AV) (l:List ByteArray):En 119 (loopOf Tryz.f93 2) ⟨[(1,.clo 94 [] [.elt 100004 0 0,.elt 100003 0 0]),Z1h8 rest x,Z1h9 x,(86,.int .i64 ((x.kids.length:Nat):Int))],vp l⟩ (fun e t=>e= .exit 5∧t=⟨[],vp l⟩):=by
 exact gE ⟨rfl,rfl⟩ 60000 [.is false] [] [K0 100003,K0 100004,K1 100005] (aC2 (zsq7nn x) (zsq6af l))
abbrev Z1ha:Nat×AV:=(4,.tptr [.str p,.seq (hd.map Ar.av) false,.seq (bd.map Li.av) false])
abbrev Z1hb:Nat×AV:=(20,.int .i64 ((hd.map Ar.av).length:Nat))
theorem wh93 (i:Nat) (hi:i<hd.length) (hk:hd.length<8796093022208) (hl:l.length<8796093022208):En 119 (loopOf Tryz.f93 0) ⟨[(1,.clo 94 [] [.elt 100004 0 0,.elt 100003 0 0]),Z1ha p hd bd,Z1hb hd,(21,.int .i64 (i:Int))],vp l⟩ (fun e t=>e= .normal∧∃y,hd[i]? =some y∧t=⟨[(1,.clo 94 [] [.elt 100004 0 0,.elt 100003 0 0]),Z1ha p hd bd,Z1hb hd,(21,.int .i64 ((i+1:Nat):Int))],vp (addT l [y.t])⟩):=by
 obtain ⟨x0,hm0,hx0⟩:=elt_of Ar.av (l:=hd) (n:=(↑i:Int)) (by omega) (by omega)
 have hs1:=k94 l ((Ar.t x0).1) ([AV.int .i8 (Ar.t x0).2,AV.int .i64 (Ar.t x0).3,AV.str (Ar.t x0).4]) (by assumption)
 exact ⟨Out.normal,St.mk [Z1h7,Z1ha p hd bd,(20,.int .i64 (↑(hd.map Ar.av).length:Int)),(21,.int .i64 ((i:Int)+1))] [(100003,.var [.own 1 (List.map AV.str (addV l (Ar.t x0).1))]),Z1h3,(100005,.map (List.map AV.str (addV l (Ar.t x0).1)) (pos (addV l (Ar.t x0).1)))],⟨rfl,x0,hm0,rfl⟩,gA 60000 [.is true,.elt (.agg [.int .i8 x0.1,.str (Ar.t x0).1,.int .i8 (Ar.t x0).2,.int .i64 (Ar.t x0).3,.str (Ar.t x0).4]),.call (.tup []) [100003,100004,100005] [(100003,.var [.own 1 (List.map AV.str (addV l (Ar.t x0).1))]),Z1h3,(100005,.map (List.map AV.str (addV l (Ar.t x0).1)) (pos (addV l (Ar.t x0).1)))]] [1,4,20,21] [K0 100003,K0 100004,K1 100005] (by kernel_rfl) (aC5 (d1 Ar.av hd i (by omega)) hx0 hs1 (w1 i (by omega)) (show noIdsL (List.map AV.str (addV l (Ar.t x0).1))=true∧noIdsL (pos (addV l (Ar.t x0).1))=true from by simp))⟩
theorem zs1dwb (hd:List Ar):decide ((↑hd.length:Int)<(↑(hd.map Ar.av).length:Int))=false:=by simp
theorem wi93:En 119 (loopOf Tryz.f93 0) ⟨[(1,.clo 94 [] [.elt 100004 0 0,.elt 100003 0 0]),Z1ha p hd bd,Z1hb hd,(21,.int .i64 ((hd.length:Nat):Int))],vp l⟩ (fun e t=>e= .exit 1∧t=⟨[(1,.clo 94 [] [.elt 100004 0 0,.elt 100003 0 0]),Z1ha p hd bd],vp l⟩):=by
 exact gE ⟨rfl,rfl⟩ 60000 [.is false] [1,4] [K0 100003,K0 100004,K1 100005] (aC2 (zs1dwb hd) (zsq6af l))
theorem Ex.termsL_map:∀(l:List Ex),Ex.termsL l=l.flatMap Ex.terms
 |[]=>rfl
 |e::r=>by simp only [Ex.termsL,List.flatMap_cons,Ex.termsL_map r]
theorem Ex.terms_eq (x:Ex):x.terms=x.t::Ex.termsL x.kids:=by cases x;rfl
theorem Ex.termsL_len:∀(l:List Ex),l.length≤(Ex.termsL l).length
 |[]=>Nat.le_refl _
 |e::r=>by
  have:=Ex.termsL_len r
  simp only [Ex.termsL,Ex.terms_eq e,List.length_cons,List.length_append];omega
theorem l93_2 (x:Ex) (rest:List AV) (l:List ByteArray) (hB:l.length+(Ex.termsL x.kids).length<8796093022208) (k93:∀(y:Ex),y∈x.kids→∀(l:List ByteArray),l.length+y.terms.length<8796093022208→Sp 93 [.iface 198 (.tptr y.cells),.clo 94 [] [.elt 100004 0 0,.elt 100003 0 0]] (vp l) (.tup []) (vp (addT l y.terms))):
  Lo 119 (loopOf Tryz.f93 2) ⟨[(1,.clo 94 [] [.elt 100004 0 0,.elt 100003 0 0]),Z1h8 rest x,Z1h9 x,(86,.int .i64 0)],vp l⟩ (.exit 5) ⟨[],vp (addT l (Ex.termsL x.kids))⟩:=by
 have hk:=Ex.termsL_len x.kids
 rw [Ex.termsL_map] at hB hk⊢
 exact fold_loop (P:=Tryz.prog) (n:=119) (k:=5) (c:=loopOf Tryz.f93 2) Ex.terms x.kids (fun i=>[(1,.clo 94 [] [.elt 100004 0 0,.elt 100003 0 0]),Z1h8 rest x,Z1h9 x,(86,.int .i64 (i:Int))]) [] l hB
  (fun i l' hi hl=>wx93 x rest l' i hi hl (by omega) (fun y hy=>k93 y hy l')) (fun l'=>wy93 x rest l')
theorem l93_0 (hB:l.length+hd.length<8796093022208):
  Lo 119 (loopOf Tryz.f93 0) ⟨[(1,.clo 94 [] [.elt 100004 0 0,.elt 100003 0 0]),Z1ha p hd bd,Z1hb hd,(21,.int .i64 0)],vp l⟩ (.exit 1) ⟨[(1,.clo 94 [] [.elt 100004 0 0,.elt 100003 0 0]),Z1ha p hd bd],vp (addT l (hd.map Ar.t))⟩:=by
 have e:hd.map Ar.t=hd.flatMap (fun a=>[a.t]):=by simp [List.map_eq_flatMap]
 rw [e]
 exact fold_loop (P:=Tryz.prog) (n:=119) (k:=1) (c:=loopOf Tryz.f93 0) (fun a:Ar=>[a.t]) hd (fun i=>[(1,.clo 94 [] [.elt 100004 0 0,.elt 100003 0 0]),Z1ha p hd bd,Z1hb hd,(21,.int .i64 (i:Int))]) _ l (by rw [←e];simpa using hB)
  (fun i l' hi hl=>wh93 p hd bd l' i hi (by omega) (by have:=hl _ (List.getElem?_eq_getElem hi);simp at this;omega)) (fun l'=>wi93 p hd bd l')
theorem b93b (x:Ex) (rest:List AV) (l:List ByteArray) (h0:l.length<8796093022208) (hB:(addV l x.t.v).length+(Ex.termsL x.kids).length<8796093022208) (k93:∀(y:Ex),y∈x.kids→∀(l:List ByteArray),l.length+y.terms.length<8796093022208→Sp 93 [.iface 198 (.tptr y.cells),.clo 94 [] [.elt 100004 0 0,.elt 100003 0 0]] (vp l) (.tup []) (vp (addT l y.terms))):EN 119 (bodyOf Tryz.f93) ⟨[(0,.iface 198 (.tptr (x.cells++rest))),(1,.clo 94 [] [.elt 100004 0 0,.elt 100003 0 0])],vp l⟩ ⟨[],vp (addT (addV l x.t.v) (Ex.termsL x.kids))⟩:=by
 have hs0:=k94 l ((Ex.t x).1) (AV.int .i8 (Ex.t x).2::AV.int .i64 (Ex.t x).3::AV.str (Ex.t x).4::AV.seq (List.map Ex.av (Ex.kids x)) false::rest) (by assumption)
 have hl1:=l93_2 x rest (addV l (Ex.t x).1) (by assumption) (by assumption)
 exact gE ⟨rfl,rfl⟩ 60000 [.call (.tup []) [100003,100004,100005] [(100003,.var [.own 1 (List.map AV.str (addV l (Ex.t x).1))]),Z1h3,(100005,.map (List.map AV.str (addV l (Ex.t x).1)) (pos (addV l (Ex.t x).1)))],.cut [1,8,85,86] [K1 100003,K0 100004,K1 100005],.sum (.exit 5) [] (vp (addT (addV l (Ex.t x).1) (Ex.termsL (Ex.kids x))))] [] [K0 100003,K0 100004,K1 100005] (aC5 hs0 rT (show noIdsL (List.map AV.str (addV l (Ex.t x).1))=true∧noIdsL (pos (addV l (Ex.t x).1))=true from by simp) hl1 (show noIdsL (List.map AV.str (addT (addV l (Ex.t x).1) (Ex.termsL (Ex.kids x))))=true∧noIdsL (pos (addT (addV l (Ex.t x).1) (Ex.termsL (Ex.kids x))))=true from by simp))
mutual
theorem k93b:∀(x:Ex) (rest:List AV) (l:List ByteArray),l.length+x.terms.length<8796093022208→Sp 93 [.iface 198 (.tptr (x.cells++rest)),.clo 94 [] [.elt 100004 0 0,.elt 100003 0 0]] (vp l) (.tup []) (vp (addT l x.terms))
 | .mk o t ks,rest,l,hB=>by
   have e:Ex.terms (.mk o t ks)=t::Ex.termsL ks:=rfl
   rw [e] at hB⊢
   rw [addT_cons]
   have:=addV_len l t.v
   simp only [List.length_cons] at hB
   obtain ⟨e,t',⟨rfl,rfl⟩,h⟩:=b93b (.mk o t ks) rest l (by omega) (by show (addV l t.v).length+(Ex.termsL ks).length<_;omega) (fun y hy l' hl=>k93s ks y hy l' hl)
   exact sG Tryz.f93 (obs_vp l) h (.inl rfl)
theorem k93s:∀(ks:List Ex) (y:Ex),y∈ks→∀(l:List ByteArray),l.length+y.terms.length<8796093022208→Sp 93 [.iface 198 (.tptr y.cells),.clo 94 [] [.elt 100004 0 0,.elt 100003 0 0]] (vp l) (.tup []) (vp (addT l y.terms))
 |[],y,hy,_,_=>by simp at hy
 |x::r,y,hy,l,hl=>by
  rcases List.mem_cons.1 hy with e|e
  ·have:=k93b x [] l (by rw [←e];exact hl)
   rw [e,←List.append_nil x.cells];exact this
  ·exact k93s r y e l hl
end
theorem b93c (x:Li) (l:List ByteArray) (h1:l.length+x.ts.length<8796093022208) (h2:(addT l x.ts).length+x.l.terms.length<8796093022208) (h3:(addT (addT l x.ts) x.l.terms).length+x.r.terms.length<8796093022208):EN 119 (bodyOf Tryz.f93) ⟨[(0,.iface 154 (.tptr x.cells)),(1,.clo 94 [] [.elt 100004 0 0,.elt 100003 0 0])],vp l⟩ ⟨[],vp (addT (addT (addT l x.ts) x.l.terms) x.r.terms)⟩:=by
 have hs0:=k93a x.2 x.3 ([AV.int .i8 x.4,AV.int .i8 (Ex.op (Li.l x)),AV.str (Ex.t (Li.l x)).1,AV.int .i8 (Ex.t (Li.l x)).2,AV.int .i64 (Ex.t (Li.l x)).3,AV.str (Ex.t (Li.l x)).4,AV.seq (List.map Ex.av (Ex.kids (Li.l x))) false,AV.int .i8 (Ex.op (Li.r x)),AV.str (Ex.t (Li.r x)).1,AV.int .i8 (Ex.t (Li.r x)).2,AV.int .i64 (Ex.t (Li.r x)).3,AV.str (Ex.t (Li.r x)).4,AV.seq (List.map Ex.av (Ex.kids (Li.r x))) false]) (l) (by omega) (by assumption)
 have hs1:=k93b (Li.l x) ([AV.int .i8 (Ex.op (Li.r x)),AV.str (Ex.t (Li.r x)).1,AV.int .i8 (Ex.t (Li.r x)).2,AV.int .i64 (Ex.t (Li.r x)).3,AV.str (Ex.t (Li.r x)).4,AV.seq (List.map Ex.av (Ex.kids (Li.r x))) false]) (addT l x.3) (by assumption)
 have hs2:=k93b (Li.r x) ([]) (addT (addT l x.3) (Ex.terms (Li.l x))) (by assumption)
 exact gE ⟨rfl,rfl⟩ 60000 [.call (.tup []) [100003,100004,100005] [(100003,.var [.own 1 (List.map AV.str (addT l x.3))]),Z1h3,(100005,.map (List.map AV.str (addT l x.3)) (pos (addT l x.3)))],.call (.tup []) [100003,100004,100005] [(100003,.var [.own 1 (List.map AV.str (addT (addT l x.3) (Ex.terms (Li.l x))))]),Z1h3,(100005,.map (List.map AV.str (addT (addT l x.3) (Ex.terms (Li.l x)))) (pos (addT (addT l x.3) (Ex.terms (Li.l x)))))],.call (.tup []) [100003,100004,100005] [(100003,.var [.own 1 (List.map AV.str (addT (addT (addT l x.3) (Ex.terms (Li.l x))) (Ex.terms (Li.r x))))]),Z1h3,(100005,.map (List.map AV.str (addT (addT (addT l x.3) (Ex.terms (Li.l x))) (Ex.terms (Li.r x)))) (pos (addT (addT (addT l x.3) (Ex.terms (Li.l x))) (Ex.terms (Li.r x)))))]] [] [K0 100003,K0 100004,K1 100005] (aC4 hs0 hs1 hs2 (show noIdsL (List.map AV.str (addT (addT (addT l x.3) (Ex.terms (Li.l x))) (Ex.terms (Li.r x))))=true∧noIdsL (pos (addT (addT (addT l x.3) (Ex.terms (Li.l x))) (Ex.terms (Li.r x))))=true from by simp))
theorem k93c (x:Li) (l:List ByteArray) (hB:l.length+x.terms.length<8796093022208):Sp 93 [.iface 154 (.tptr x.cells),.clo 94 [] [.elt 100004 0 0,.elt 100003 0 0]] (vp l) (.tup []) (vp (addT l x.terms)):=by
 have a1:=addT_len x.ts l
 have a2:=addT_len x.l.terms (addT l x.ts)
 unfold Li.terms at hB⊢
 rw [addT_app,addT_app]
 simp only [List.length_append] at hB
 obtain ⟨e,t',⟨rfl,rfl⟩,h⟩:=b93c x l (by omega) (by omega) (by omega)
 exact sG Tryz.f93 (obs_vp l) h (.inl rfl)
abbrev Z1hc:Nat×AV:=(38,.int .i64 ((bd.map Li.av).length:Nat))
theorem wb93 (i:Nat) (hi:i<bd.length) (hk:bd.length≤9223372036854775807) (hl:∀(y:Li),bd[i]? =some y→l.length+y.terms.length<8796093022208):En 119 (loopOf Tryz.f93 1) ⟨[(1,.clo 94 [] [.elt 100004 0 0,.elt 100003 0 0]),Z1ha p hd bd,Z1hc bd,(39,.int .i64 (i:Int))],vp l⟩ (fun e t=>e= .normal∧∃y,bd[i]? =some y∧t=⟨[(1,.clo 94 [] [.elt 100004 0 0,.elt 100003 0 0]),Z1ha p hd bd,Z1hc bd,(39,.int .i64 ((i+1:Nat):Int))],vp (addT l y.terms)⟩):=by
 obtain ⟨x0,hm0,hx0⟩:=elt_of Li.av (l:=bd) (n:=(↑i:Int)) (by omega) (by omega)
 have hs1:=k93c x0 l (hl _ (by assumption))
 exact ⟨Out.normal,St.mk [Z1h7,Z1ha p hd bd,(38,.int .i64 (↑(bd.map Li.av).length:Int)),(39,.int .i64 ((i:Int)+1))] [(100003,.var [.own 1 (List.map AV.str (addT l (Li.terms x0)))]),Z1h3,(100005,.map (List.map AV.str (addT l (Li.terms x0))) (pos (addT l (Li.terms x0))))],⟨rfl,x0,hm0,rfl⟩,gA 60000 [.is true,.elt (.agg x0.cells),.call (.tup []) [100003,100004,100005] [(100003,.var [.own 1 (List.map AV.str (addT l (Li.terms x0)))]),Z1h3,(100005,.map (List.map AV.str (addT l (Li.terms x0))) (pos (addT l (Li.terms x0))))]] [1,4,38,39] [K0 100003,K0 100004,K1 100005] (by kernel_rfl) (aC5 (d1 Li.av bd i (by omega)) hx0 hs1 (w1 i (by omega)) (show noIdsL (List.map AV.str (addT l (Li.terms x0)))=true∧noIdsL (pos (addT l (Li.terms x0)))=true from by simp))⟩
theorem zsvzxo (bd:List Li):decide ((↑bd.length:Int)<(↑(bd.map Li.av).length:Int))=false:=by simp
theorem wc93:En 119 (loopOf Tryz.f93 1) ⟨[(1,.clo 94 [] [.elt 100004 0 0,.elt 100003 0 0]),Z1ha p hd bd,Z1hc bd,(39,.int .i64 ((bd.length:Nat):Int))],vp l⟩ (fun e t=>e= .exit 3∧t=⟨[],vp l⟩):=by
 exact gE ⟨rfl,rfl⟩ 60000 [.is false] [] [K0 100003,K0 100004,K1 100005] (aC2 (zsvzxo bd) (zsq6af l))
theorem l93_1 (hk:bd.length≤9223372036854775807) (hB:l.length+(liTerms bd).length<8796093022208):
  Lo 119 (loopOf Tryz.f93 1) ⟨[(1,.clo 94 [] [.elt 100004 0 0,.elt 100003 0 0]),Z1ha p hd bd,Z1hc bd,(39,.int .i64 0)],vp l⟩ (.exit 3) ⟨[],vp (addT l (liTerms bd))⟩:=
 fold_loop (P:=Tryz.prog) (n:=119) (k:=3) (c:=loopOf Tryz.f93 1) Li.terms bd (fun i=>[(1,.clo 94 [] [.elt 100004 0 0,.elt 100003 0 0]),Z1ha p hd bd,Z1hc bd,(39,.int .i64 (i:Int))]) [] l hB
  (fun i l' hi hl=>wb93 p hd bd l' i hi hk hl) (fun l'=>wc93 p hd bd l')
theorem b93d (hk:bd.length≤9223372036854775807) (h1:l.length+hd.length<8796093022208) (h2:(addT l (hd.map Ar.t)).length+(liTerms bd).length<8796093022208):EN 119 (bodyOf Tryz.f93) ⟨[(0,.iface 196 (.tptr [.str p,.seq (hd.map Ar.av) false,.seq (bd.map Li.av) false])),(1,.clo 94 [] [.elt 100004 0 0,.elt 100003 0 0])],vp l⟩ ⟨[],vp (addT (addT l (hd.map Ar.t)) (liTerms bd))⟩:=by
 have hl0:=l93_0 p hd bd l (by assumption)
 have hl1:=l93_1 p hd bd (addT l (List.map Ar.t hd)) (by assumption) (by assumption)
 exact gE ⟨rfl,rfl⟩ 60000 [.cut [1,4,20,21] [K1 100003,K0 100004,K1 100005],.sum (.exit 1) [(1,.clo 94 [] [.elt 100004 0 0,.elt 100003 0 0]),Z1ha p hd bd] (vp (addT l (hd.map Ar.t))),.cut [1,4,38,39] [K1 100003,K0 100004,K1 100005],.sum (.exit 3) [] (vp (addT (addT l (hd.map Ar.t)) (liTerms bd)))] [] [K0 100003,K0 100004,K1 100005] (aC7 rT (zsq6af l) hl0 rT (show noIdsL (List.map AV.str (addT l (hd.map Ar.t)))=true∧noIdsL (pos (addT l (hd.map Ar.t)))=true from by simp) hl1 (show noIdsL (List.map AV.str (addT (addT l (hd.map Ar.t)) (liTerms bd)))=true∧noIdsL (pos (addT (addT l (hd.map Ar.t)) (liTerms bd)))=true from by simp))
theorem k93d (hk:bd.length≤9223372036854775807) (hB:l.length+(hd.map Ar.t++liTerms bd).length<8796093022208):Sp 93 [.iface 196 (.tptr [.str p,.seq (hd.map Ar.av) false,.seq (bd.map Li.av) false]),.clo 94 [] [.elt 100004 0 0,.elt 100003 0 0]] (vp l) (.tup []) (vp (addT l (hd.map Ar.t++liTerms bd))):=by
 have a1:=addT_len (hd.map Ar.t) l
 rw [addT_app]
 simp only [List.length_append,List.length_map] at hB a1
 obtain ⟨e,t',⟨rfl,rfl⟩,h⟩:=b93d p hd bd l hk (by omega) (by omega)
 exact sG Tryz.f93 (obs_vp l) h (.inl rfl)
end
section
variable (ty:TypeId) (cs:List AV) (l:List ByteArray) (p:ByteArray)
abbrev Z1i8:St:=⟨[(0,.iface ty (.tptr cs)),(2,.nils)],[]⟩
theorem w53a:EN 10 (partC 0 (bodyOf Tryz.f53)) ⟨[(0,.iface ty (.tptr cs))],[]⟩ (Z1i8 ty cs):=by
 exact ⟨Out.normal,St.mk [(0,.iface ty (.tptr cs)),(2,AV.nils)] [],⟨rfl,rfl⟩,gA 100000 [] [0,2] [] (by kernel_rfl) (aN)⟩
abbrev Z1i0:Nat×AV:=(3,.elt 100003 0 0)
abbrev Z1i1:Nat×Ob:=(100003,.var [.nils])
abbrev Z1i9:St:=⟨[(0,.iface ty (.tptr cs)),Z1i0],[Z1i1]⟩
theorem w53b:EN 10 (partC 1 (bodyOf Tryz.f53)) (Z1i8 ty cs) (Z1i9 ty cs):=by
 exact ⟨Out.normal,St.mk [(0,.iface ty (.tptr cs)),Z1i0] [Z1i1],⟨rfl,rfl⟩,gA 100000 [] [0,3] [K0 100003] (by kernel_rfl) (aN)⟩
abbrev Z1i2:Nat×AV:=(4,.elt 100004 0 0)
abbrev Z1i3:Nat×Ob:=(100004,.var [.map 100005])
abbrev Z1i4:Nat×Ob:=(100005,.map [] [])
theorem w53c:EN 10 (partC 2 (bodyOf Tryz.f53)) (Z1i9 ty cs) ⟨[(0,.iface ty (.tptr cs)),Z1i0,Z1i2],[Z1i1,Z1i3,Z1i4]⟩:=by
 exact ⟨Out.normal,St.mk [(0,.iface ty (.tptr cs)),Z1i0,Z1i2] [Z1i1,Z1i3,Z1i4],⟨rfl,rfl⟩,gA 100000 [] [0,3,4] [K0 100003,K0 100004,K0 100005] (by kernel_rfl) (aN)⟩
abbrev Z1i5:Nat×Ob:=(100005,.map (l.map AV.str) (pos l))
theorem w53d (k93:Sp 93 [.iface ty (.tptr cs),.clo 94 [] [.elt 100004 0 0,.elt 100003 0 0]] (vp []) (.tup []) (vp l)):EN 10 (partC 3 (bodyOf Tryz.f53)) ⟨[(0,.iface ty (.tptr cs)),Z1i0,Z1i2],vp []⟩ ⟨[Z1i0],vp l⟩:=by
 have hs0:=k93
 exact gE ⟨rfl,rfl⟩ 100000 [.call (.tup []) [100003,100004,100005] [(100003,.var [.own 1 (l.map AV.str)]),Z1i3,Z1i5 l]] [3] [K0 100003,K0 100004,K1 100005] (aC2 hs0 (zsq6af l))
theorem w53e:En 10 (restC 4 (bodyOf Tryz.f53)) ⟨[Z1i0],[Z1i1,Z1i3,Z1i4]⟩ (fun e t=>e= .ret∧t=⟨[(2,.nils)],[Z1i1,Z1i3,Z1i4]⟩):=by
 exact ⟨Out.ret,St.mk [(2,AV.nils)] [Z1i1,Z1i3,Z1i4],⟨rfl,rfl⟩,gA 100000 [] [2] [K0 100003,K0 100004,K0 100005] (by kernel_rfl) (aN)⟩
theorem zsn5n4 (l:List ByteArray):noIdsL (l.map AV.str)=true:=by simp
abbrev Z1i6:Nat×Ob:=(100003,.var [.row 100500 0 (l.map AV.str).length])
abbrev Z1ic:List (Nat×Ob):=[Z1i6 l,Z1i3,Z1i5 l,(100500,.row 1 (l.map AV.str))]
theorem w53f:En 10 (restC 4 (bodyOf Tryz.f53)) ⟨[Z1i0],(Z1ic l)⟩ (fun e t=>e= .ret∧t=⟨[(2,.row 100500 0 (l.map AV.str).length)],(Z1ic l)⟩):=by
 exact gE ⟨rfl,rfl⟩ 100000 [] [2] [K0 100003,K0 100004,K1 100005,K1 100500] (aC2 (zsq6af l) (zsn5n4 l))
abbrev Z1i7:Nat×AV:=(2,.seq (l.map AV.str) false)
abbrev Z1ia:St:=⟨[Z1i7 l],[]⟩
theorem k53 (t:TypeId) (cs:List AV) (l:List ByteArray) (h93:Sp 93 [.iface t (.tptr cs),.clo 94 [] [.elt 100004 0 0,.elt 100003 0 0]] (vp []) (.tup []) (vp l)):Sp 53 [.iface t (.tptr cs)] [] (.seq (l.map .str) false) []:=by
 obtain ⟨e,s,⟨rfl,rfl⟩,r0⟩:=w53a t cs
 obtain ⟨e,s,⟨rfl,rfl⟩,r1⟩:=w53b t cs
 obtain ⟨e,s,⟨rfl,rfl⟩,r2⟩:=w53c t cs
 obtain ⟨e,s,⟨rfl,rfl⟩,r3⟩:=w53d t cs l h93
 have r2':=r2.post (le_closeNil (st:=⟨_,[Z1i1,Z1i3,Z1i4]⟩) 100003 0 1 rfl rfl)
 by_cases hl:l=[]
 ·subst hl
  obtain ⟨e,s,⟨rfl,rfl⟩,r4⟩:=w53e
  have r4':=(r4.pre (le_openNil (st:=⟨_,vp []⟩) 100003 0 (sz:=1) rfl rfl)).p
  have r5:=r4'.keepR [2] [] (st':=⟨[(2,.nils)],[]⟩) (cs:=[]) rfl trivial
  refine Spec.wkR (Spec.pureP (st':=⟨[(2,.nils)],[]⟩) (fn:=Tryz.f53) (c:=bodyOf Tryz.f53) (by kernel_rfl) (by kernel_rfl) (by simp [noIdsL,noIds]) ?_ (.inr rfl) (by kernel_rfl) rfl) .nils
  exact RunsP.nth 0 (by kernel_rfl) r0.p (RunsP.nth 1 (by kernel_rfl) r1.p (RunsP.nth 2 (by kernel_rfl) r2'.p (RunsP.nth 3 (by kernel_rfl) r3.p r5)))
 ·obtain ⟨e,s,⟨rfl,rfl⟩,r4⟩:=w53f l
  have r4':=(r4.pre (le_open (st:=⟨_,vp l⟩) 100003 0 100500 (sz:=1) rfl rfl (by simpa using hl) rfl (by simp [mid]))).p
  have r5:=r4'.keepR [2] [(100500,.freeze)] (st':=(Z1ia l)) (cs:=[(l.map AV.str).length=(l.map AV.str).length,noIdsL (l.map AV.str)=true]) rfl ⟨rfl,noIdsL_strs l,trivial⟩
  refine (Spec.pureP (st':=(Z1ia l)) (fn:=Tryz.f53) (c:=bodyOf Tryz.f53) (by kernel_rfl) (by kernel_rfl) (by simp [noIdsL,noIds]) ?_ (.inr rfl) (by kernel_rfl) rfl)
  exact RunsP.nth 0 (by kernel_rfl) r0.p (RunsP.nth 1 (by kernel_rfl) r1.p (RunsP.nth 2 (by kernel_rfl) r2'.p (RunsP.nth 3 (by kernel_rfl) r3.p r5)))
theorem w91a (hd:List Ar) (bd:List Li):EN 5 (partC 0 (bodyOf Tryz.f91)) ⟨[(0,.agg [.str p,.seq (hd.map Ar.av) false,.seq (bd.map Li.av) false])],[]⟩ ⟨[(1,.tptr [.str p,.seq (hd.map Ar.av) false,.seq (bd.map Li.av) false])],[]⟩:=by
 exact gE ⟨rfl,rfl⟩ 0 [] [1] [(1,.freeze)] (aC1 rT)
abbrev Z1ib:St:=⟨[(1,.tptr cs)],[]⟩
theorem w91b (k53:Sp 53 [.iface 196 (.tptr cs)] [] (.seq (l.map .str) false) []):En 5 (restC 1 (bodyOf Tryz.f91)) (Z1ib cs) (fun e t=>e= .ret∧t=(Z1ia l)):=by
 have hs0:=k53
 exact gE ⟨rfl,rfl⟩ 0 [.call (.seq (l.map AV.str) false) [] []] [2] [] (aC1 hs0)
theorem w28a (ts:List Tm):EN 5 (partC 0 (bodyOf Tryz.f28)) ⟨[(0,atA p ts)],[]⟩ ⟨[(1,.tptr [.str p,.seq (ts.map Tm.av) false])],[]⟩:=by
 exact gE ⟨rfl,rfl⟩ 0 [] [1] [(1,.freeze)] (aC1 rT)
theorem w28b (k53:Sp 53 [.iface 108 (.tptr cs)] [] (.seq (l.map .str) false) []):En 5 (restC 1 (bodyOf Tryz.f28)) (Z1ib cs) (fun e t=>e= .ret∧t=(Z1ia l)):=by
 have hs0:=k53
 exact gE ⟨rfl,rfl⟩ 0 [.call (.seq (l.map AV.str) false) [] []] [2] [] (aC1 hs0)
theorem w52a (x:Li):EN 5 (partC 0 (bodyOf Tryz.f52)) ⟨[(0,x.av)],[]⟩ ⟨[(1,.tptr x.cells)],[]⟩:=by
 exact gE ⟨rfl,rfl⟩ 0 [] [1] [(1,.freeze)] (aC1 rT)
theorem w52b (k53:Sp 53 [.iface 154 (.tptr cs)] [] (.seq (l.map .str) false) []):En 5 (restC 1 (bodyOf Tryz.f52)) (Z1ib cs) (fun e t=>e= .ret∧t=(Z1ia l)):=by
 have hs0:=k53
 exact gE ⟨rfl,rfl⟩ 0 [.call (.seq (l.map AV.str) false) [] []] [2] [] (aC1 hs0)
theorem w187a (x:Ex):EN 5 (partC 0 (bodyOf Tryz.f187)) ⟨[(0,.agg x.cells)],[]⟩ ⟨[(1,.tptr x.cells)],[]⟩:=by
 exact gE ⟨rfl,rfl⟩ 0 [] [1] [(1,.freeze)] (aC1 rT)
theorem w187b (k53:Sp 53 [.iface 198 (.tptr cs)] [] (.seq (l.map .str) false) []):En 5 (restC 1 (bodyOf Tryz.f187)) (Z1ib cs) (fun e t=>e= .ret∧t=(Z1ia l)):=by
 have hs0:=k53
 exact gE ⟨rfl,rfl⟩ 0 [.call (.seq (l.map AV.str) false) [] []] [2] [] (aC1 hs0)
def varsOf (ts:List Tm):List ByteArray:=addT [] ts
theorem k91 (hd:List Ar) (bd:List Li) (hk:bd.length≤9223372036854775807) (hB:(hd.map Ar.t++liTerms bd).length<8796093022208):Sp 91 [.agg [.str p,.seq (hd.map Ar.av) false,.seq (bd.map Li.av) false]] [] (.seq ((varsOf (hd.map Ar.t++liTerms bd)).map .str) false) []:=by
 obtain ⟨e,s,⟨rfl,rfl⟩,r0⟩:=w91a p hd bd
 obtain ⟨e,s,⟨rfl,rfl⟩,r1⟩:=w91b _ _ (k53 _ _ _ (k93d p hd bd [] hk (by simpa using hB)))
 exact sP Tryz.f91 (by simp [noIdsL,noIds]) (Runs.nth 0 (by kernel_rfl) r0 r1) (.inr rfl)
theorem k28 (ts:List Tm) (hk:ts.length<8796093022208):Sp 28 [atA p ts] [] (.seq ((varsOf ts).map .str) false) []:=by
 obtain ⟨e,s,⟨rfl,rfl⟩,r0⟩:=w28a p ts
 obtain ⟨e,s,⟨rfl,rfl⟩,r1⟩:=w28b _ _ (k53 _ _ _ (k93a p ts [] [] (by omega) (by simpa using hk)))
 exact sP Tryz.f28 (by simp [noIdsL,noIds,atA,atC]) (Runs.nth 0 (by kernel_rfl) r0 r1) (.inr rfl)
theorem k52 (x:Li) (hB:x.terms.length<8796093022208):Sp 52 [x.av] [] (.seq ((varsOf x.terms).map .str) false) []:=by
 obtain ⟨e,s,⟨rfl,rfl⟩,r0⟩:=w52a x
 obtain ⟨e,s,⟨rfl,rfl⟩,r1⟩:=w52b _ _ (k53 _ _ _ (k93c x [] (by simpa using hB)))
 exact sP Tryz.f52 (by simp [noIdsL,noIds_li]) (Runs.nth 0 (by kernel_rfl) r0 r1) (.inr rfl)
theorem k187 (x:Ex) (hB:x.terms.length<8796093022208):Sp 187 [.agg x.cells] [] (.seq ((varsOf x.terms).map .str) false) []:=by
 obtain ⟨e,s,⟨rfl,rfl⟩,r0⟩:=w187a x
 have h93:=k93b x [] [] (by simpa using hB)
 rw [List.append_nil] at h93
 obtain ⟨e,s,⟨rfl,rfl⟩,r1⟩:=w187b _ _ (k53 _ _ _ h93)
 exact sP Tryz.f187 (by simp [noIdsL,←Ex.av_eq,noIds_ex]) (Runs.nth 0 (by kernel_rfl) r0 r1) (.inr rfl)
end
section
variable (hd:List Ar) (bd:List Li) (p:ByteArray)
def litsOK (bd:List Li):Prop:=(∀y,y∈bd→y.terms.length<1000)∧∀y,y∈bd→((y.k=1∨y.k=2)→y.p.size≤120)∧(¬(y.k=1∨y.k=2)→y.p=⟨#[]⟩)
def smallR (p:ByteArray) (hd:List Ar) (bd:List Li):Prop:=p.size≤120∧hd.length≤24∧bd.length≤16∧litsOK bd
theorem liTerms_len:∀(bd:List Li),(∀y,y∈bd→y.terms.length<1000)→(liTerms bd).length≤bd.length*1000
 |[],_=>by simp [liTerms]
 |x::r,h=>by
  have h1:=h x (by simp)
  have h2:=liTerms_len r (fun y hy=>h y (by simp [hy]))
  simp only [liTerms,List.flatMap_cons,List.length_append,List.length_cons,Nat.succ_mul] at*
  omega
theorem terms_rule {hd:List Ar} {bd:List Li} (h1:hd.length≤24) (h2:bd.length≤16) (h3:litsOK bd):(hd.map Ar.t++liTerms bd).length<8796093022208:=by
 have:=liTerms_len bd h3.1
 simp only [List.length_append,List.length_map];omega
abbrev Z1j0:Nat×AV:=(25,.seq (hd.map Ar.av) false)
abbrev Z1j1:Nat×AV:=(26,.int .i64 ((hd.map Ar.av).length:Nat))
abbrev Z1j2:Nat×AV:=(1,.elt 1 0 0)
abbrev Z1j3:Nat×Ob:=(1,.var [.str p,.seq (hd.map Ar.av) false,.seq (bd.map Li.av) false])
abbrev Z1j4 (rn:Int):Nat×AV:=(2,.int .i64 rn)
abbrev Z1j5:Nat×AV:=(2,.int .i64 40)
abbrev Z1j8 (i:Nat):St:=⟨[Z1j0 hd,Z1j1 hd,(27,.int .i64 (i:Int)),Z1j2],[Z1j3 hd bd p]⟩
abbrev Z1j9 (rn:Int):St:=⟨[Z1j4 rn],[Z1j3 hd bd p]⟩
theorem t49_0 (hsm:hd.length≤9223372036854775807) (i:Nat) (hi:i<hd.length):En 53 (loopOf Tryz.f49 0) (Z1j8 hd bd p i) (fun e t=>(e= .ret∧∃rn:Int,t=(Z1j9 hd bd p rn)∧rn≠0)∨(e= .normal∧t=⟨[Z1j0 hd,Z1j1 hd,(27,.int .i64 ((i+1:Nat):Int)),Z1j2],[Z1j3 hd bd p]⟩)):=by
 obtain ⟨x0,hm0,hx0⟩:=elt_of Ar.av (l:=hd) (n:=(↑i:Int)) (by omega) (by omega)
 obtain ⟨r1,hs2⟩:=k88 x0
 cases r1 with
 |true=>
  exact gE (.inr ⟨rfl,rfl⟩) 0 [.is true,.elt (.agg [.int .i8 x0.1,.str (Ar.t x0).1,.int .i8 (Ar.t x0).2,.int .i64 (Ar.t x0).3,.str (Ar.t x0).4]),.call (.bool true) [] []] [25,26,27,1] [K1 1] (aC5 (d1 Ar.av hd i (by omega)) hx0 hs2 (w1 i (by omega)) rT)
 |false=>
  exact ⟨Out.ret,St.mk [Z1j5] [Z1j3 hd bd p],.inl ⟨rfl,_,rfl,by simp_all⟩,gA 0 [.is true,.elt (.agg [.int .i8 x0.1,.str (Ar.t x0).1,.int .i8 (Ar.t x0).2,.int .i64 (Ar.t x0).3,.str (Ar.t x0).4]),.call (.bool false) [] []] [2] [K1 1] (by kernel_rfl) (aC4 (d1 Ar.av hd i (by omega)) hx0 hs2 rT)⟩
abbrev Z1ja:St:=⟨[Z1j2],[Z1j3 hd bd p]⟩
theorem e49_0 (hsm:hd.length≤9223372036854775807):En 53 (loopOf Tryz.f49 0) ⟨[Z1j0 hd,Z1j1 hd,(27,.int .i64 ((hd.length:Nat):Int)),Z1j2],[Z1j3 hd bd p]⟩ (fun e t=>e= .exit 0∧t=(Z1ja hd bd p)):=by
 exact gE ⟨rfl,rfl⟩ 0 [.is false] [1] [K1 1] (aC2 (zs1dwb hd) rT)
abbrev Z1jb:St:=⟨[Z1j0 hd,Z1j1 hd,(27,.int .i64 0),Z1j2],[Z1j3 hd bd p]⟩
theorem l49_0 (hsm:hd.length≤9223372036854775807):(∃rn:Int,Lo 53 (loopOf Tryz.f49 0) (Z1jb hd bd p) .ret (Z1j9 hd bd p rn)∧rn≠0)∨Lo 53 (loopOf Tryz.f49 0) (Z1jb hd bd p) (.exit 0) (Z1ja hd bd p):=by
 rcases range_ex (N:=hd.length) (k:=0) (fun i=>⟨[Z1j0 hd,Z1j1 hd,(27,.int .i64 (i:Int)),Z1j2],[Z1j3 hd bd p]⟩) (Z1ja hd bd p) (fun t=>∃rn:Int,t=(Z1j9 hd bd p rn)∧rn≠0) (fun i hi=>t49_0 hd bd p hsm i hi) (e49_0 hd bd p hsm) with ⟨s,h,hq⟩|h
 ·obtain ⟨rn,rfl,hpr⟩:=hq;exact .inl ⟨rn,h,hpr⟩
 ·exact .inr h
abbrev Z1j6:Nat×AV:=(36,.seq (bd.map Li.av) false)
abbrev Z1j7:Nat×AV:=(37,.int .i64 ((bd.map Li.av).length:Nat))
abbrev Z1jc (i:Nat):St:=⟨[Z1j6 bd,Z1j7 bd,(38,.int .i64 (i:Int)),Z1j2],[Z1j3 hd bd p]⟩
theorem t49_1p (hsm:bd.length≤9223372036854775807) (i:Nat) (hi:i<bd.length):En 53 (loopOf Tryz.f49 1) (Z1jc hd bd p i) (fun e t=>(e= .ret∧∃rn:Int,t=(Z1j9 hd bd p rn)∧rn≠0)∨(e= .normal∧t=⟨[Z1j6 bd,Z1j7 bd,(38,.int .i64 ((i+1:Nat):Int)),Z1j2],[Z1j3 hd bd p]⟩∧∀y,bd[i]? =some y→y.terms.length<1000∧((y.k=1∨y.k=2)→y.p.size≤120)∧(¬(y.k=1∨y.k=2)→y.p=⟨#[]⟩))):=by
 obtain ⟨x0,hm0,hx0⟩:=elt_of Li.av (l:=bd) (n:=(↑i:Int)) (by omega) (by omega)
 obtain ⟨r1,⟨hs2,hs2'⟩⟩:=k89p x0
 rcases bft (decide (r1=0)) with h3|h3
 ·exact ⟨Out.normal,St.mk [Z1j6 bd,(37,.int .i64 (↑(bd.map Li.av).length:Int)),(38,.int .i64 ((i:Int)+1)),Z1j2] [Z1j3 hd bd p],.inr ⟨rfl,rfl,fun y hy↦by have e:some y=some x0:=hy.symm.trans hm0;injection e with e;subst e;simp_all⟩,gA 0 [.is true,.elt (.agg x0.cells),.call (.int .i64 r1) [] [],.is false] [36,37,38,1] [K1 1] (by kernel_rfl) (aC6 (d1 Li.av bd i (by omega)) hx0 hs2 (nF h3) (w1 i (by omega)) rT)⟩
 ·exact ⟨Out.ret,St.mk [(2,.int .i64 r1)] [Z1j3 hd bd p],.inl ⟨rfl,_,rfl,by simp_all⟩,gA 0 [.is true,.elt (.agg x0.cells),.call (.int .i64 r1) [] [],.is true] [2] [K1 1] (by kernel_rfl) (aC5 (d1 Li.av bd i (by omega)) hx0 hs2 (nT h3) rT)⟩
theorem e49_1p:En 53 (loopOf Tryz.f49 1) ⟨[Z1j6 bd,Z1j7 bd,(38,.int .i64 ((bd.length:Nat):Int)),Z1j2],[Z1j3 hd bd p]⟩ (fun e t=>e= .exit 2∧t=(Z1ja hd bd p)):=by
 exact gE ⟨rfl,rfl⟩ 0 [.is false] [1] [K1 1] (aC2 (zsvzxo bd) rT)
abbrev Z1jd:St:=⟨[Z1j6 bd,Z1j7 bd,(38,.int .i64 0),Z1j2],[Z1j3 hd bd p]⟩
theorem l49_1p (hsm:bd.length≤9223372036854775807):
  (∃rn:Int,Lo 53 (loopOf Tryz.f49 1) (Z1jd hd bd p) .ret (Z1j9 hd bd p rn)∧rn≠0)∨
  (Lo 53 (loopOf Tryz.f49 1) (Z1jd hd bd p) (.exit 2) (Z1ja hd bd p)∧litsOK bd):=by
 rcases range_inv (P:=Tryz.prog) (n:=53) (c:=loopOf Tryz.f49 1) (N:=bd.length) (k:=2) (fun i=>⟨[Z1j6 bd,Z1j7 bd,(38,.int .i64 (i:Int)),Z1j2],[Z1j3 hd bd p]⟩) (Z1ja hd bd p)
  (fun t=>∃rn:Int,t=(Z1j9 hd bd p rn)∧rn≠0) (fun i=>∀y,bd[i]? =some y→y.terms.length<1000∧((y.k=1∨y.k=2)→y.p.size≤120)∧(¬(y.k=1∨y.k=2)→y.p=⟨#[]⟩)) (fun i hi=>t49_1p hd bd p hsm i hi) (e49_1p hd bd p) with ⟨s,h,rn,rfl,h0⟩|⟨h,hr⟩
 ·exact .inl ⟨rn,h,h0⟩
 ·have key:∀y,y∈bd→y.terms.length<1000∧((y.k=1∨y.k=2)→y.p.size≤120)∧(¬(y.k=1∨y.k=2)→y.p=⟨#[]⟩):=fun y hy=>by
   obtain ⟨i,hi⟩:=List.mem_iff_getElem?.1 hy
   exact hr i (List.getElem?_eq_some_iff.1 hi).1 y hi
  exact .inr ⟨h,fun y hy=>(key y hy).1,fun y hy=>(key y hy).2⟩
theorem b49p (hd:List Ar) (bd:List Li):En 53 (bodyOf Tryz.f49) ⟨[(0,.agg [.str p,.seq (hd.map Ar.av) false,.seq (bd.map Li.av) false])],[]⟩ (fun e t=>e= .ret∧∃rn:Int,t=⟨[Z1j4 rn],[]⟩∧(rn=0→smallR p hd bd)):=by
 obtain ⟨r0,⟨hs1,hs1'⟩⟩:=k87p p
 cases r0 with
 |true=>
  rcases bft (decide (24<(↑(List.length (List.map Ar.av hd)):Int))) with h2|h2
  ·exact ⟨Out.ret,St.mk [Z1j5] [],⟨rfl,_,rfl,by first|(intro h;cases h;done)|(intro h;simp at h;done)|(intro h;exact absurd h (by assumption))|(intro _;refine ⟨?_,?_,?_,by assumption⟩;exact hs1' rfl;(simp at*;omega);(simp at*;omega))⟩,gA 0 [.call (.bool true) [] [],.is true] [2] [] (by kernel_rfl) (aC2 hs1 h2)⟩
  ·rcases bft (decide (16<(↑(List.length (List.map Li.av bd)):Int))) with h3|h3
   ·exact ⟨Out.ret,St.mk [Z1j5] [],⟨rfl,_,rfl,by first|(intro h;cases h;done)|(intro h;simp at h;done)|(intro h;exact absurd h (by assumption))|(intro _;refine ⟨?_,?_,?_,by assumption⟩;exact hs1' rfl;(simp at*;omega);(simp at*;omega))⟩,gA 0 [.call (.bool true) [] [],.is false,.is true] [2] [] (by kernel_rfl) (aC3 hs1 h2 h3)⟩
   ·rcases l49_0 (hd) (bd) (p) (by simp at*;omega) with o4|o4
    ·obtain ⟨y5,⟨hl6,hl6'⟩⟩:=o4
     exact ⟨Out.ret,St.mk [(2,.int .i64 y5)] [],⟨rfl,_,rfl,by first|(intro h;cases h;done)|(intro h;simp at h;done)|(intro h;exact absurd h (by assumption))|(intro _;refine ⟨?_,?_,?_,by assumption⟩;exact hs1' rfl;(simp at*;omega);(simp at*;omega))⟩,gA 0 [.call (.bool true) [] [],.is false,.is false,.cut [25,26,27,1] [K1 1],.sum .ret [(2,.int .i64 y5)] [Z1j3 hd bd p]] [2] [] (by kernel_rfl) (aC5 hs1 h2 h3 rT hl6)⟩
    ·have hl5:=o4
     rcases l49_1p (hd) (bd) (p) (by simp at*;omega) with o6|o6
     ·obtain ⟨y7,⟨hl8,hl8'⟩⟩:=o6
      exact ⟨Out.ret,St.mk [(2,.int .i64 y7)] [],⟨rfl,_,rfl,by first|(intro h;cases h;done)|(intro h;simp at h;done)|(intro h;exact absurd h (by assumption))|(intro _;refine ⟨?_,?_,?_,by assumption⟩;exact hs1' rfl;(simp at*;omega);(simp at*;omega))⟩,gA 0 [.call (.bool true) [] [],.is false,.is false,.cut [25,26,27,1] [K1 1],.sum (.exit 0) [Z1j2] [Z1j3 hd bd p],.cut [36,37,38,1] [K1 1],.sum .ret [(2,.int .i64 y7)] [Z1j3 hd bd p]] [2] [] (by kernel_rfl) (aC7 hs1 h2 h3 rT hl5 rT hl8)⟩
     ·obtain ⟨hl7,hl7'⟩:=o6
      have hs8:=k91 p hd bd (by simp at*;omega) (by refine terms_rule ?_ ?_ (by assumption)<;>(simp at*;omega))
      rcases bft (decide ((↑(List.length (List.map AV.str (varsOf (List.map Ar.t hd++liTerms bd)))):Int)≤24)) with h9|h9
      ·have hs10:=k90 true
       exact ⟨Out.ret,St.mk [(2,.int .i64 0)] [],⟨rfl,_,rfl,by first|(intro h;cases h;done)|(intro h;simp at h;done)|(intro h;exact absurd h (by assumption))|(intro _;refine ⟨?_,?_,?_,by assumption⟩;exact hs1' rfl;(simp at*;omega);(simp at*;omega))⟩,gA 0 [.call (.bool true) [] [],.is false,.is false,.cut [25,26,27,1] [K1 1],.sum (.exit 0) [Z1j2] [Z1j3 hd bd p],.cut [36,37,38,1] [K1 1],.sum (.exit 2) [Z1j2] [Z1j3 hd bd p],.call (.seq (List.map AV.str (varsOf (List.map Ar.t hd++liTerms bd))) false) [] [],.is true,.call (.int .i64 0) [] []] [2] [] (by kernel_rfl) (aC10 hs1 h2 h3 rT hl5 rT hl7 hs8 h9 hs10)⟩
      ·have hs10:=k90 false
       exact ⟨Out.ret,St.mk [Z1j5] [],⟨rfl,_,rfl,by first|(intro h;cases h;done)|(intro h;simp at h;done)|(intro h;exact absurd h (by assumption))|(intro _;refine ⟨?_,?_,?_,by assumption⟩;exact hs1' rfl;(simp at*;omega);(simp at*;omega))⟩,gA 0 [.call (.bool true) [] [],.is false,.is false,.cut [25,26,27,1] [K1 1],.sum (.exit 0) [Z1j2] [Z1j3 hd bd p],.cut [36,37,38,1] [K1 1],.sum (.exit 2) [Z1j2] [Z1j3 hd bd p],.call (.seq (List.map AV.str (varsOf (List.map Ar.t hd++liTerms bd))) false) [] [],.is false,.call (.int .i64 40) [] []] [2] [] (by kernel_rfl) (aC10 hs1 h2 h3 rT hl5 rT hl7 hs8 h9 hs10)⟩
 |false=>
  exact ⟨Out.ret,St.mk [Z1j5] [],⟨rfl,_,rfl,by first|(intro h;cases h;done)|(intro h;simp at h;done)|(intro h;exact absurd h (by assumption))|(intro _;refine ⟨?_,?_,?_,by assumption⟩;exact hs1' rfl;(simp at*;omega);(simp at*;omega))⟩,gA 0 [.call (.bool false) [] []] [2] [] (by kernel_rfl) (aC1 hs1)⟩
theorem k49p (hd:List Ar) (bd:List Li):∃rn:Int,Sp 49 [.agg [.str p,.seq (hd.map Ar.av) false,.seq (bd.map Li.av) false]] [] (.int .i64 rn) []∧(rn=0→smallR p hd bd):=by
 obtain ⟨e,t,⟨rfl,rn,rfl,hg⟩,h⟩:=b49p p hd bd
 exact ⟨rn,sP Tryz.f49 (by simp [noIdsL,noIds]) h (.inr rfl),hg⟩
end
section
variable (s:ByteArray) (n:Int)
abbrev Am:=List (ByteArray×Int)
def amK (am:Am):List ByteArray:=am.map Prod.fst
def amV (am:Am):List AV:=am.map fun x=> .int .i64 x.2
def ap (am:Am):List (Nat×Ob):=[(100003,.map ((amK am).map .str) (amV am))]
@[simp] theorem noIdsL_amV (am:Am):noIdsL (amV am)=true:=noIdsL_of (fun x:ByteArray×Int=>AV.int .i64 x.2) (fun _=>rfl) am
theorem obs_ap (am:Am):∀id o,(id,o)∈ap am→renOb (idT (ap am)) o=o:=by
 intro id o hm
 simp only [ap,List.mem_cons,Prod.mk.injEq,List.not_mem_nil,or_false] at hm
 obtain ⟨rfl,rfl⟩:=hm
 simp only [renOb,renL_noIds _ _ (noIdsL_strs (amK am)),renL_noIds _ _ (noIdsL_amV am)]
def Step (a b:Am) (N:ByteArray→Prop) (k:Nat):Prop:=(∀x,x∈a→x∈b)∧((amK a).Nodup→(amK b).Nodup)∧(∀u,u∈amK b→u∈amK a∨N u)∧b.length≤a.length+k
theorem Step.refl (a:Am) (N:ByteArray→Prop) (k:Nat):Step a a N k:=⟨fun _ h=>h,fun h=>h,fun _ h=> .inl h,by omega⟩
theorem Step.trans {a b c:Am} {N M:ByteArray→Prop} {k l:Nat} (h:Step a b N k) (g:Step b c M l):Step a c (fun u=>N u∨M u) (k+l):=
 ⟨fun x hx=>g.1 x (h.1 x hx),fun hd=>g.2.1 (h.2.1 hd),fun u hu=>(g.2.2.1 u hu).elim (fun q=>(h.2.2.1 u q).elim .inl (fun r=> .inr (.inl r))) (fun q=> .inr (.inr q)),by have:=h.2.2.2;have:=g.2.2.2;omega⟩
theorem Step.more {a b:Am} {N M:ByteArray→Prop} {k l:Nat} (h:Step a b N k) (hN:∀u,N u→M u) (hk:k≤l):Step a b M l:=
 ⟨h.1,h.2.1,fun u hu=>(h.2.2.1 u hu).imp_right (hN u),by have:=h.2.2.2;omega⟩
theorem amV_get {am:Am} {j:Nat} {x:ByteArray×Int} (h:am[j]? =some x):(amV am)[j]? =some (.int .i64 x.2):=by simp [amV,h]
theorem amK_app (am:Am) (s:ByteArray) (n:Int):amK (am++[(s,n)])=amK am++[s]:=by simp [amK]
theorem amV_app (am:Am) (s:ByteArray) (n:Int):amV (am++[(s,n)])=amV am++[.int .i64 n]:=by simp [amV]
theorem zso2es (am:Am):noIdsL (List.map AV.str (amK am))=true∧noIdsL (amV am)=true:=by simp
theorem w179a (am:Am) (s:ByteArray) (n m:Int) (hf:∃i,findA true (.str s) ((amK am).map AV.str) 0=some (some i)∧(amV am)[i]? =some (.int .i64 m)):En 27 (bodyOf Tryz.f179) ⟨[(0,.map 100003),(1,.str s),(2,.int .i64 n)],[(100003,.map ((amK am).map .str) (amV am))]⟩ (fun e t=>e= .ret∧∃rb:Bool,t=⟨[(6,.bool rb)],[(100003,.map ((amK am).map .str) (amV am))]⟩∧(rb=true→m=n)):=by
 rcases bft (decide (m=n)) with h0|h0
 ·exact ⟨Out.ret,St.mk [(6,AV.bool true)] [(100003,Ob.map (List.map AV.str (amK am)) (amV am))],⟨rfl,_,rfl,by first|(intro h;cases h;done)|(intro _;simp_all;done)⟩,gA 60000 [.elt (.int .i64 m),.is true] [6] [K1 100003] (by kernel_rfl) (aC3 hf h0 (zso2es am))⟩
 ·exact ⟨Out.ret,St.mk [(6,AV.bool false)] [(100003,Ob.map (List.map AV.str (amK am)) (amV am))],⟨rfl,_,rfl,by first|(intro h;cases h;done)|(intro _;simp_all;done)⟩,gA 60000 [.elt (.int .i64 m),.is false] [6] [K1 100003] (by kernel_rfl) (aC3 hf h0 (zso2es am))⟩
theorem w179b (am:Am) (s:ByteArray) (n:Int) (hf:findA true (.str s) ((amK am).map AV.str) 0=some none):En 27 (bodyOf Tryz.f179) ⟨[(0,.map 100003),(1,.str s),(2,.int .i64 n)],[(100003,.map ((amK am).map .str) (amV am))]⟩ (fun e t=>e= .ret∧t=⟨[(6,.bool true)],[(100003,.map ((amK am).map .str++[.str s]) (amV am++[.int .i64 n]))]⟩):=by
 exact gE ⟨rfl,rfl⟩ 60000 [.is false,.is false] [6] [K1 100003] (aC3 hf hf (show noIdsL (List.map AV.str (amK am)++[AV.str s])=true∧noIdsL (amV am++[AV.int .i64 n])=true from by simp))
theorem k179 (am:Am) (s:ByteArray) (n:Int):∃(rb:Bool) (am2:Am),Sp 179 [.map 100003,.str s,.int .i64 n] (ap am) (.bool rb) (ap am2)∧(rb=true→(s,n)∈am2)∧Step am am2 (fun u=>u=s) 1:=by
 by_cases h3:s∈amK am
 ·obtain ⟨j,hf,hj⟩:=findA_some (i:=0) h3
  rw [Nat.zero_add] at hf
  have hjl:j<am.length:=by have:=(List.getElem?_eq_some_iff.1 hj).1;simpa [amK] using this
  have hx:am[j]? =some am[j]:=List.getElem?_eq_getElem hjl
  have hs:(am[j]).1=s:=by simpa [amK,hx] using hj
  obtain ⟨e,t,⟨rfl,rb,rfl,hp⟩,h⟩:=w179a am s n (am[j]).2 ⟨j,hf,amV_get hx⟩
  refine ⟨rb,am,sG Tryz.f179 (obs_ap am) h (.inr rfl),fun hr=> ?_,fun _ h=>h,fun h=>h,fun _ h=> .inl h,by omega⟩
  have e1:am[j]=(s,n):=by
   have:=hp hr
   rw [←hs,←this]
  rw [←e1];exact List.getElem_mem hjl
 ·obtain ⟨e,t,⟨rfl,rfl⟩,h⟩:=w179b am s n (findA_none h3)
  have h':Rz 27 (bodyOf Tryz.f179) ⟨[(0,.map 100003),(1,.str s),(2,.int .i64 n)],ap am⟩ .ret ⟨[(6,.bool true)],ap (am++[(s,n)])⟩:=by
   unfold ap
   rw [amK_app,amV_app,List.map_append]
   exact h
  refine ⟨true,am++[(s,n)],sG Tryz.f179 (obs_ap am) h' (.inr rfl),fun _=>by simp,fun x h=>by simp [h],fun hd=> ?_,fun u hu=> ?_,by simp⟩
  ·rw [amK_app]
   exact List.nodup_append.2 ⟨hd,by simp,fun a ha b hb=>by rw [List.mem_singleton] at hb;rintro rfl;exact h3 (hb▸ha)⟩
  ·rw [amK_app,List.mem_append,List.mem_singleton] at hu
   exact hu
end
section
variable (bd:List Li) (am:Am)
def MetL (a b:Am) (y:Li):Prop:=Step a b (fun u=>(y.k=1∨y.k=2)∧u=y.p) 1∧((y.k=1∨y.k=2)→(y.p,(y.ts.length:Int))∈b)
theorem metL_none {a:Am} {y:Li} (h1:decide (y.k=1)=false) (h2:decide (y.k=2)=false):MetL a a y:=
 ⟨Step.refl _ _ _,fun h=>(h.elim (fun q=>absurd q (of_decide_eq_false h1)) (fun q=>absurd q (of_decide_eq_false h2)))⟩
theorem metL_one {a b:Am} {y:Li} {m:Int} (h:decide (y.k=1)=true∨decide (y.k=2)=true) (hm:m=(y.ts.length:Int)) (hs:(true=true→(y.p,m)∈b)∧Step a b (fun u=>u=y.p) 1):MetL a b y:=
 ⟨hs.2.more (fun u hu=>⟨h.imp of_decide_eq_true of_decide_eq_true,hu⟩) (Nat.le_refl _),fun _=>hm▸hs.1 rfl⟩
abbrev Z1l0:Nat×AV:=(0,.map 100003)
abbrev Z1l1:Nat×AV:=(16,.seq (bd.map Li.av) false)
abbrev Z1l2:Nat×AV:=(17,.int .i64 ((bd.map Li.av).length:Nat))
abbrev Z1l3:Nat×AV:=(4,.bool false)
abbrev Z1l4:Nat×AV:=(17,.int .i64 (↑(bd.map Li.av).length:Int))
abbrev Z1l5 (i:Nat):Nat×AV:=(18,.int .i64 ((i:Int)+1))
theorem t127 (i:Nat) (hi:i<bd.length) (hsm:bd.length≤9223372036854775807):En 43 (loopOf Tryz.f127 0) ⟨[Z1l0,Z1l1 bd,Z1l2 bd,(18,.int .i64 (i:Int))],ap am⟩ (fun e t=>(e= .ret∧∃am2:Am,t=⟨[Z1l3],ap am2⟩)∨(e= .normal∧∃am2:Am,(∃y,bd[i]? =some y∧MetL am am2 y)∧t=⟨[Z1l0,Z1l1 bd,Z1l2 bd,(18,.int .i64 ((i+1:Nat):Int))],ap am2⟩)):=by
 obtain ⟨x0,hm0,hx0⟩:=elt_of Li.av (l:=bd) (n:=(↑i:Int)) (by omega) (by omega)
 rcases bft (decide (x0.1=1)) with h1|h1
 ·obtain ⟨r2,r3,⟨hs4,hs4'⟩⟩:=k179 am x0.2 ((↑(List.length (List.map Tm.av x0.3)):Int))
  cases r2 with
  |true=>
   exact ⟨Out.normal,St.mk [Z1l0,Z1l1 bd,Z1l4 bd,Z1l5 i] [(100003,.map (List.map AV.str (amK r3)) (amV r3))],by first|(refine .inr ⟨rfl,am,⟨x0,hm0,metL_none ?_ ?_⟩,rfl⟩;assumption;assumption;done)|(refine .inr ⟨rfl,_,⟨x0,hm0,metL_one (m:=((x0.ts.map Tm.av).length:Int)) (.inl ?_) ?_ ?_⟩,rfl⟩;assumption;simp;assumption)|(refine .inr ⟨rfl,_,⟨x0,hm0,metL_one (m:=((x0.ts.map Tm.av).length:Int)) (.inr ?_) ?_ ?_⟩,rfl⟩;assumption;simp;assumption),gA 60000 [.is true,.elt (.agg x0.cells),.is true,.call (.bool true) [100003] [(100003,.map (List.map AV.str (amK r3)) (amV r3))]] [0,16,17,18] [K1 100003] (by kernel_rfl) (aC6 (d1 Li.av bd i (by omega)) hx0 h1 hs4 (w1 i (by omega)) (show noIdsL (List.map AV.str (amK r3))=true∧noIdsL (amV r3)=true from by simp))⟩
  |false=>
   exact ⟨Out.ret,St.mk [Z1l3] [(100003,.map (List.map AV.str (amK r3)) (amV r3))],.inl ⟨rfl,_,rfl⟩,gA 60000 [.is true,.elt (.agg x0.cells),.is true,.call (.bool false) [100003] [(100003,.map (List.map AV.str (amK r3)) (amV r3))]] [4] [K1 100003] (by kernel_rfl) (aC5 (d1 Li.av bd i (by omega)) hx0 h1 hs4 (show noIdsL (List.map AV.str (amK r3))=true∧noIdsL (amV r3)=true from by simp))⟩
 ·rcases bft (decide (x0.1=2)) with h2|h2
  ·obtain ⟨r3,r4,⟨hs5,hs5'⟩⟩:=k179 am x0.2 ((↑(List.length (List.map Tm.av x0.3)):Int))
   cases r3 with
   |true=>
    exact ⟨Out.normal,St.mk [Z1l0,Z1l1 bd,Z1l4 bd,Z1l5 i] [(100003,.map (List.map AV.str (amK r4)) (amV r4))],by first|(refine .inr ⟨rfl,am,⟨x0,hm0,metL_none ?_ ?_⟩,rfl⟩;assumption;assumption;done)|(refine .inr ⟨rfl,_,⟨x0,hm0,metL_one (m:=((x0.ts.map Tm.av).length:Int)) (.inl ?_) ?_ ?_⟩,rfl⟩;assumption;simp;assumption)|(refine .inr ⟨rfl,_,⟨x0,hm0,metL_one (m:=((x0.ts.map Tm.av).length:Int)) (.inr ?_) ?_ ?_⟩,rfl⟩;assumption;simp;assumption),gA 60000 [.is true,.elt (.agg x0.cells),.is false,.is true,.call (.bool true) [100003] [(100003,.map (List.map AV.str (amK r4)) (amV r4))]] [0,16,17,18] [K1 100003] (by kernel_rfl) (aC7 (d1 Li.av bd i (by omega)) hx0 h1 h2 hs5 (w1 i (by omega)) (show noIdsL (List.map AV.str (amK r4))=true∧noIdsL (amV r4)=true from by simp))⟩
   |false=>
    exact ⟨Out.ret,St.mk [Z1l3] [(100003,.map (List.map AV.str (amK r4)) (amV r4))],.inl ⟨rfl,_,rfl⟩,gA 60000 [.is true,.elt (.agg x0.cells),.is false,.is true,.call (.bool false) [100003] [(100003,.map (List.map AV.str (amK r4)) (amV r4))]] [4] [K1 100003] (by kernel_rfl) (aC6 (d1 Li.av bd i (by omega)) hx0 h1 h2 hs5 (show noIdsL (List.map AV.str (amK r4))=true∧noIdsL (amV r4)=true from by simp))⟩
  ·exact ⟨Out.normal,St.mk [Z1l0,Z1l1 bd,Z1l4 bd,Z1l5 i] [(100003,.map (List.map AV.str (amK am)) (amV am))],by first|(refine .inr ⟨rfl,am,⟨x0,hm0,metL_none ?_ ?_⟩,rfl⟩;assumption;assumption;done)|(refine .inr ⟨rfl,_,⟨x0,hm0,metL_one (m:=((x0.ts.map Tm.av).length:Int)) (.inl ?_) ?_ ?_⟩,rfl⟩;assumption;simp;assumption)|(refine .inr ⟨rfl,_,⟨x0,hm0,metL_one (m:=((x0.ts.map Tm.av).length:Int)) (.inr ?_) ?_ ?_⟩,rfl⟩;assumption;simp;assumption),gA 60000 [.is true,.elt (.agg x0.cells),.is false,.is false] [0,16,17,18] [K1 100003] (by kernel_rfl) (aC6 (d1 Li.av bd i (by omega)) hx0 h1 h2 (w1 i (by omega)) (zso2es am))⟩
theorem e127:En 43 (loopOf Tryz.f127 0) ⟨[Z1l0,Z1l1 bd,Z1l2 bd,(18,.int .i64 ((bd.length:Nat):Int))],ap am⟩ (fun e t=>e= .exit 0∧t=⟨[],ap am⟩):=by
 exact gE ⟨rfl,rfl⟩ 60000 [.is false] [] [K1 100003] (aC2 (zsvzxo bd) (zso2es am))
def MetB (a b:Am) (bd:List Li):Prop:=Step a b (fun u=>∃y,y∈bd∧(y.k=1∨y.k=2)∧u=y.p) bd.length∧∀y,y∈bd→(y.k=1∨y.k=2)→(y.p,(y.ts.length:Int))∈b
theorem MetB.nil (a:Am):MetB a a []:=⟨Step.refl _ _ _,fun y hy=>by simp at hy⟩
theorem MetB.snoc {a b c:Am} {bd:List Li} {y:Li} (h:MetB a b bd) (g:MetL b c y):MetB a c (bd++[y]):=
 ⟨(h.1.trans g.1).more (fun u hu=>hu.elim (fun ⟨z,hz,q⟩=>⟨z,by simp [hz],q⟩) (fun q=>⟨y,by simp,q⟩)) (by simp),fun z hz hk=>by
   rcases List.mem_append.1 hz with q|q
   ·exact g.1.1 _ (h.2 z q hk)
   ·rw [List.mem_singleton] at q;subst q;exact g.2 hk⟩
theorem l127_0 (hsm:bd.length≤9223372036854775807):
  (∃am2,Lo 43 (loopOf Tryz.f127 0) ⟨[Z1l0,Z1l1 bd,Z1l2 bd,(18,.int .i64 0)],ap am⟩ .ret ⟨[Z1l3],ap am2⟩)∨
  (∃am2,Lo 43 (loopOf Tryz.f127 0) ⟨[Z1l0,Z1l1 bd,Z1l2 bd,(18,.int .i64 0)],ap am⟩ (.exit 0) ⟨[],ap am2⟩∧MetB am am2 bd):=by
 rcases inv_loop (P:=Tryz.prog) (n:=43) (c:=loopOf Tryz.f127 0) (N:=bd.length) (k:=0) (fun i g=>⟨[Z1l0,Z1l1 bd,Z1l2 bd,(18,.int .i64 (i:Int))],ap g⟩) (fun g=>⟨[],ap g⟩) (fun t=>∃am2:Am,t=⟨[Z1l3],ap am2⟩)
  (fun i g=>MetB am g (bd.take i)) (fun i g hi hg=>by
   obtain ⟨e,t,h1|⟨rfl,g2,⟨y,hy,hm⟩,rfl⟩,h⟩:=t127 bd g i hi hsm
   ·exact ⟨e,t,.inl h1,h⟩
   ·refine ⟨_,_,.inr ⟨rfl,g2,?_,rfl⟩,h⟩
    have e1:bd.take (i+1)=bd.take i++[y]:=by
     rw [List.take_add_one,hy];rfl
    rw [e1]
    exact hg.snoc hm) (fun g _=>e127 bd g) am (MetB.nil am) with ⟨s,h,am2,rfl⟩|⟨g,hg,h⟩
 ·exact .inl ⟨am2,h⟩
 ·rw [List.take_length] at hg
  exact .inr ⟨g,h,hg⟩
theorem b127 (p:ByteArray) (hd:List Ar) (bd:List Li) (am:Am) (hsm:bd.length≤9223372036854775807):En 43 (bodyOf Tryz.f127) ⟨[Z1l0,(1,.agg [.str p,.seq (hd.map Ar.av) false,.seq (bd.map Li.av) false])],ap am⟩ (fun e t=>e= .ret∧∃(rb:Bool) (am2:Am),t=⟨[(4,.bool rb)],ap am2⟩∧(rb=true→∃am1:Am,(p,(hd.length:Int))∈am1∧Step am am1 (fun u=>u=p) 1∧MetB am1 am2 bd)):=by
 obtain ⟨r0,r1,⟨hs2,hs2'⟩⟩:=k179 am p ((↑(List.length (List.map Ar.av hd)):Int))
 cases r0 with
 |true=>
  rcases l127_0 (bd) (r1) (by assumption) with o3|o3
  ·obtain ⟨y4,hl5⟩:=o3
   exact ⟨Out.ret,St.mk [Z1l3] [(100003,.map (List.map AV.str (amK y4)) (amV y4))],⟨rfl,_,_,rfl,by first|(intro h;cases h;done)|(intro _;exact ⟨_,by simpa using hs1'.1 rfl,hs1'.2,by assumption⟩)|(intro _;exact ⟨_,by simpa using hs2'.1 rfl,hs2'.2,by assumption⟩)⟩,gA 60000 [.call (.bool true) [100003] [(100003,.map (List.map AV.str (amK r1)) (amV r1))],.cut [0,16,17,18] [K1 100003],.sum .ret [Z1l3] (ap y4)] [4] [K1 100003] (by kernel_rfl) (aC4 hs2 (show noIdsL (List.map AV.str (amK r1))=true∧noIdsL (amV r1)=true from by simp) hl5 (show noIdsL (List.map AV.str (amK y4))=true∧noIdsL (amV y4)=true from by simp))⟩
  ·obtain ⟨y4,⟨hl5,hl5'⟩⟩:=o3
   exact ⟨Out.ret,St.mk [(4,.bool true)] [(100003,.map (List.map AV.str (amK y4)) (amV y4))],⟨rfl,_,_,rfl,by first|(intro h;cases h;done)|(intro _;exact ⟨_,by simpa using hs1'.1 rfl,hs1'.2,by assumption⟩)|(intro _;exact ⟨_,by simpa using hs2'.1 rfl,hs2'.2,by assumption⟩)⟩,gA 60000 [.call (.bool true) [100003] [(100003,.map (List.map AV.str (amK r1)) (amV r1))],.cut [0,16,17,18] [K1 100003],.sum (.exit 0) [] (ap y4)] [4] [K1 100003] (by kernel_rfl) (aC4 hs2 (show noIdsL (List.map AV.str (amK r1))=true∧noIdsL (amV r1)=true from by simp) hl5 (show noIdsL (List.map AV.str (amK y4))=true∧noIdsL (amV y4)=true from by simp))⟩
 |false=>
  exact ⟨Out.ret,St.mk [Z1l3] [(100003,.map (List.map AV.str (amK r1)) (amV r1))],⟨rfl,_,_,rfl,by first|(intro h;cases h;done)|(intro _;exact ⟨_,by simpa using hs1'.1 rfl,hs1'.2,by assumption⟩)|(intro _;exact ⟨_,by simpa using hs2'.1 rfl,hs2'.2,by assumption⟩)⟩,gA 60000 [.call (.bool false) [100003] [(100003,.map (List.map AV.str (amK r1)) (amV r1))]] [4] [K1 100003] (by kernel_rfl) (aC2 hs2 (show noIdsL (List.map AV.str (amK r1))=true∧noIdsL (amV r1)=true from by simp))⟩
def MetR (a b:Am) (p:ByteArray) (hd:List Ar) (bd:List Li):Prop:=Step a b (fun u=>u=p∨∃y,y∈bd∧(y.k=1∨y.k=2)∧u=y.p) (1+bd.length)∧(p,(hd.length:Int))∈b∧∀y,y∈bd→(y.k=1∨y.k=2)→(y.p,(y.ts.length:Int))∈b
theorem k127 (p:ByteArray) (hd:List Ar) (bd:List Li) (am:Am) (hsm:bd.length≤9223372036854775807):∃(rb:Bool) (am2:Am),Sp 127 [.map 100003,.agg [.str p,.seq (hd.map Ar.av) false,.seq (bd.map Li.av) false]] (ap am) (.bool rb) (ap am2)∧(rb=true→MetR am am2 p hd bd):=by
 obtain ⟨e,t,⟨rfl,rb,am2,rfl,hp⟩,h⟩:=b127 p hd bd am hsm
 exact ⟨rb,am2,sG Tryz.f127 (obs_ap am) h (.inr rfl),fun hr=>by
  obtain ⟨am1,h1,h2,h3⟩:=hp hr
  exact ⟨h2.trans h3.1,h3.1.1 _ h1,h3.2⟩⟩
end
section
variable (rs:List Ru) (am:Am)
abbrev Z1m0:Nat×AV:=(7,.seq (rs.map Ru.av) false)
abbrev Z1m1:Nat×AV:=(8,.int .i64 ((rs.map Ru.av).length:Nat))
abbrev Z1m2:Nat×AV:=(4,.bool false)
theorem t126 (i:Nat) (hi:i<rs.length) (hsm:rs.length≤9223372036854775807) (hl:∀(y:Ru),rs[i]? =some y→y.bd.length≤9223372036854775807):En 18 (loopOf Tryz.f126 0) ⟨[(1,.clo 127 [.map 100003] []),Z1m0 rs,Z1m1 rs,(9,.int .i64 (i:Int))],ap am⟩ (fun e t=>(e= .ret∧∃am2:Am,t=⟨[Z1m2],ap am2⟩)∨(e= .normal∧∃am2:Am,(∃y,rs[i]? =some y∧MetR am am2 y.p y.hd y.bd)∧t=⟨[(1,.clo 127 [.map 100003] []),Z1m0 rs,Z1m1 rs,(9,.int .i64 ((i+1:Nat):Int))],ap am2⟩)):=by
 obtain ⟨x0,hm0,hx0⟩:=elt_of Ru.av (l:=rs) (n:=(↑i:Int)) (by omega) (by omega)
 obtain ⟨r1,r2,⟨hs3,hs3'⟩⟩:=k127 x0.1 x0.2 x0.3 am (hl _ (by assumption))
 cases r1 with
 |true=>
  exact ⟨Out.normal,St.mk [(1,.clo 127 [.map 100003] []),Z1m0 rs,(8,.int .i64 (↑(rs.map Ru.av).length:Int)),(9,.int .i64 ((i:Int)+1))] [(100003,.map (List.map AV.str (amK r2)) (amV r2))],.inr ⟨rfl,_,⟨x0,hm0,by simp_all⟩,rfl⟩,gA 60000 [.is true,.elt (.agg [.str x0.1,.seq (List.map Ar.av x0.2) false,.seq (List.map Li.av x0.3) false]),.call (.bool true) [100003] [(100003,.map (List.map AV.str (amK r2)) (amV r2))]] [1,7,8,9] [K1 100003] (by kernel_rfl) (aC5 (d1 Ru.av rs i (by omega)) hx0 hs3 (w1 i (by omega)) (show noIdsL (List.map AV.str (amK r2))=true∧noIdsL (amV r2)=true from by simp))⟩
 |false=>
  exact ⟨Out.ret,St.mk [Z1m2] [(100003,.map (List.map AV.str (amK r2)) (amV r2))],.inl ⟨rfl,_,rfl⟩,gA 60000 [.is true,.elt (.agg [.str x0.1,.seq (List.map Ar.av x0.2) false,.seq (List.map Li.av x0.3) false]),.call (.bool false) [100003] [(100003,.map (List.map AV.str (amK r2)) (amV r2))]] [4] [K1 100003] (by kernel_rfl) (aC4 (d1 Ru.av rs i (by omega)) hx0 hs3 (show noIdsL (List.map AV.str (amK r2))=true∧noIdsL (amV r2)=true from by simp))⟩
theorem zs40eu (rs:List Ru):decide ((↑rs.length:Int)<(↑(rs.map Ru.av).length:Int))=false:=by simp
theorem e126:En 18 (loopOf Tryz.f126 0) ⟨[(1,.clo 127 [.map 100003] []),Z1m0 rs,Z1m1 rs,(9,.int .i64 ((rs.length:Nat):Int))],ap am⟩ (fun e t=>e= .exit 0∧t=⟨[],ap am⟩):=by
 exact gE ⟨rfl,rfl⟩ 60000 [.is false] [] [K1 100003] (aC2 (zs40eu rs) (zso2es am))
def namesR (r:Ru) (u:ByteArray):Prop:=u=r.p∨∃y,y∈r.bd∧(y.k=1∨y.k=2)∧u=y.p
def numbR (b:Am) (r:Ru):Prop:=(r.p,(r.hd.length:Int))∈b∧∀y,y∈r.bd→(y.k=1∨y.k=2)→(y.p,(y.ts.length:Int))∈b
def MetA (a b:Am) (rs:List Ru):Prop:=Step a b (fun u=>∃r,r∈rs∧namesR r u) (17*rs.length)∧∀r,r∈rs→numbR b r
theorem numbR.up {a b:Am} {r:Ru} (h:numbR a r) (hs:∀x,x∈a→x∈b):numbR b r:=⟨hs _ h.1,fun y hy hk=>hs _ (h.2 y hy hk)⟩
theorem MetA.nil (a:Am):MetA a a []:=⟨Step.refl _ _ _,fun y hy=>by simp at hy⟩
theorem MetA.snoc {a b c:Am} {rs:List Ru} {r:Ru} (h:MetA a b rs) (hr:r.bd.length≤16) (g:MetR b c r.p r.hd r.bd):MetA a c (rs++[r]):=
 ⟨(h.1.trans g.1).more (fun u hu=>hu.elim (fun ⟨z,hz,q⟩=>⟨z,by simp [hz],q⟩) (fun q=>⟨r,by simp,q⟩)) (by simp;omega),fun z hz=>by
   rcases List.mem_append.1 hz with q|q
   ·exact (h.2 z q).up g.1.1
   ·rw [List.mem_singleton] at q;subst q;exact g.2⟩
abbrev Z1m3:Nat×AV:=(9,.int .i64 0)
theorem l126_0 (hsm:rs.length≤9223372036854775807) (hb:∀r,r∈rs→r.bd.length≤16):
  (∃am2,Lo 18 (loopOf Tryz.f126 0) ⟨[(1,.clo 127 [.map 100003] []),Z1m0 rs,Z1m1 rs,Z1m3],ap am⟩ .ret ⟨[Z1m2],ap am2⟩)∨
  (∃am2,Lo 18 (loopOf Tryz.f126 0) ⟨[(1,.clo 127 [.map 100003] []),Z1m0 rs,Z1m1 rs,Z1m3],ap am⟩ (.exit 0) ⟨[],ap am2⟩∧MetA am am2 rs):=by
 rcases inv_loop (P:=Tryz.prog) (n:=18) (c:=loopOf Tryz.f126 0) (N:=rs.length) (k:=0) (fun i g=>⟨[(1,.clo 127 [.map 100003] []),Z1m0 rs,Z1m1 rs,(9,.int .i64 (i:Int))],ap g⟩) (fun g=>⟨[],ap g⟩) (fun t=>∃am2:Am,t=⟨[Z1m2],ap am2⟩)
  (fun i g=>MetA am g (rs.take i)) (fun i g hi hg=>by
   obtain ⟨e,t,h1|⟨rfl,g2,⟨y,hy,hm⟩,rfl⟩,h⟩:=t126 rs g i hi hsm (fun y hy=>by have:=hb y (List.mem_of_getElem? hy);omega)
   ·exact ⟨e,t,.inl h1,h⟩
   ·refine ⟨_,_,.inr ⟨rfl,g2,?_,rfl⟩,h⟩
    have e1:rs.take (i+1)=rs.take i++[y]:=by
     rw [List.take_add_one,hy];rfl
    rw [e1]
    exact hg.snoc (hb y (List.mem_of_getElem? hy)) hm) (fun g _=>e126 rs g) am (MetA.nil am) with ⟨s,h,am2,rfl⟩|⟨g,hg,h⟩
 ·exact .inl ⟨am2,h⟩
 ·rw [List.take_length] at hg
  exact .inr ⟨g,h,hg⟩
theorem b126 (hsm:rs.length≤9223372036854775807) (hb:∀r,r∈rs→r.bd.length≤16):En 18 (bodyOf Tryz.f126) ⟨[(0,.seq (rs.map Ru.av) false),(1,.clo 127 [.map 100003] [])],ap am⟩ (fun e t=>e= .ret∧∃(rb:Bool) (am2:Am),t=⟨[(4,.bool rb)],ap am2⟩∧(rb=true→MetA am am2 rs)):=by
 rcases l126_0 (rs) (am) (by assumption) (by assumption) with o0|o0
 ·obtain ⟨y1,hl2⟩:=o0
  exact ⟨Out.ret,St.mk [Z1m2] [(100003,.map (List.map AV.str (amK y1)) (amV y1))],⟨rfl,_,_,rfl,by first|(intro h;cases h;done)|(intro _;assumption)⟩,gA 60000 [.cut [1,7,8,9] [K1 100003],.sum .ret [Z1m2] (ap y1)] [4] [K1 100003] (by kernel_rfl) (aC3 (zso2es am) hl2 (show noIdsL (List.map AV.str (amK y1))=true∧noIdsL (amV y1)=true from by simp))⟩
 ·obtain ⟨y1,⟨hl2,hl2'⟩⟩:=o0
  exact ⟨Out.ret,St.mk [(4,.bool true)] [(100003,.map (List.map AV.str (amK y1)) (amV y1))],⟨rfl,_,_,rfl,by first|(intro h;cases h;done)|(intro _;assumption)⟩,gA 60000 [.cut [1,7,8,9] [K1 100003],.sum (.exit 0) [] (ap y1)] [4] [K1 100003] (by kernel_rfl) (aC3 (zso2es am) hl2 (show noIdsL (List.map AV.str (amK y1))=true∧noIdsL (amV y1)=true from by simp))⟩
theorem k126 (hsm:rs.length≤9223372036854775807) (hb:∀r,r∈rs→r.bd.length≤16):∃(rb:Bool) (am2:Am),Sp 126 [.seq (rs.map Ru.av) false,.clo 127 [.map 100003] []] (ap am) (.bool rb) (ap am2)∧(rb=true→MetA am am2 rs):=by
 obtain ⟨e,t,⟨rfl,rb,am2,rfl,hp⟩,h⟩:=b126 rs am hsm hb
 exact ⟨rb,am2,sG Tryz.f126 (obs_ap am) h (.inr rfl),hp⟩
theorem e128:En 18 (loopOf Tryz.f128 0) ⟨[(8,.int .i64 0),Z1m3],ap am⟩ (fun e t=>e= .exit 0∧t=⟨[],ap am⟩):=by
 exact gE ⟨rfl,rfl⟩ 60000 [.is false] [] [K1 100003] (aC2 rF (zso2es am))
theorem l128_0:Lo 18 (loopOf Tryz.f128 0) ⟨[(8,.int .i64 0),Z1m3],ap am⟩ (.exit 0) ⟨[],ap am⟩:=by
 obtain ⟨e,t,⟨rfl,rfl⟩,h⟩:=e128 am
 exact .leave h (by simp)
theorem b128:En 18 (bodyOf Tryz.f128) ⟨[(0,.nils),(1,.clo 129 [.map 100003] [])],ap am⟩ (fun e t=>e= .ret∧t=⟨[(4,.bool true)],ap am⟩):=by
 have hl0:=l128_0 am
 exact gE ⟨rfl,rfl⟩ 60000 [.cut [8,9] [K1 100003],.sum (.exit 0) [] (ap am)] [4] [K1 100003] (aC3 (zso2es am) hl0 (zso2es am))
theorem k128:Sp 128 [.nils,.clo 129 [.map 100003] []] (ap am) (.bool true) []:=by
 obtain ⟨e,t,⟨rfl,rfl⟩,h⟩:=b128 am
 exact sT Tryz.f128 (obs_ap am) h (.inr rfl)
theorem b131:En 4 (bodyOf Tryz.f131) ⟨[(0,.map 100003)],ap am⟩ (fun e t=>e= .ret∧t=⟨[(2,.clo 182 [] [.elt 100501 0 0])],[(100003,.map ((amK am).map AV.str) (amV am)),(100501,.var [.map 100003])]⟩):=by
 exact gE ⟨rfl,rfl⟩ 100500 [] [2] [K1 100003,K0 100501] (aC1 (zso2es am))
end
section
variable (am ps:Am) (ss:List ByteArray)
abbrev Z1n0:Nat×Ob:=(100003,.map ((amK am).map AV.str) (amV am))
abbrev Z1n1:Nat×Ob:=(100501,.var [.map 100003])
theorem k131:Sp 131 [.map 100003] (ap am) (.clo 182 [] [.elt 100501 0 0]) [Z1n0 am,Z1n1]:=by
 obtain ⟨e,t,⟨rfl,rfl⟩,h⟩:=b131 am
 exact sG Tryz.f131 (obs_ap am) h (.inr rfl)
theorem textsA_map:∀(l:List ByteArray),textsA (l.map AV.str)=some (l.map fun s=>s.data.toList)
 |[]=>rfl
 |s::r=>by simp only [List.map_cons,textsA,textsA_map r]
theorem k130 (h1:∀s,s∈amK am→s.size≤1000000) (h2:am.length≤100000000):∃ss:List ByteArray,Sp 130 [.clo 182 [] [.elt 100501 0 0]] [Z1n0 am,Z1n1] (.seq (ss.map .str) false) []∧ss.Perm (amK am):=by
 have hl:(amK am).length=am.length:=by simp [amK]
 refine ⟨(sortT ((amK am).map fun s=>s.data.toList)).map fun (l:List UInt8)=>(⟨l.toArray⟩:ByteArray),?_,?_⟩
 ·have h:=srt_ok 130 [.clo 182 [] [.elt 100501 0 0]] [Z1n0 am,Z1n1] 0 (.seq ((sortT ((amK am).map fun s=>s.data.toList)).map fun (l:List UInt8)=>AV.str ⟨l.toArray⟩) false) [] 0 (by
   have ha:(((amK am).map fun s=>s.data.toList).all (fun t=>Nat.ble t.length 1000000)&&Nat.ble ((amK am).map fun s=>s.data.toList).length 100000000)=true:=by
    rw [Bool.and_eq_true]
    refine ⟨List.all_eq_true.2 fun t ht=> ?_,Nat.ble_eq_true_of_le (by rw [List.length_map,hl];exact h2)⟩
    obtain ⟨s,hs,rfl⟩:=List.mem_map.1 ht
    exact Nat.ble_eq_true_of_le (h1 s hs)
   show (match textsA ((amK am).map AV.str) with
    |some ts=>bif ts.all (fun t=>Nat.ble t.length 1000000)&&Nat.ble ts.length 100000000 then some (AV.seq ((sortT ts).map fun (l:List UInt8)=>AV.str ⟨l.toArray⟩) false,([]:List (Nat×Ob)),0) else none
    |none=>none)=_
   rw [textsA_map]
   simp only [ha,cond_true])
  rw [List.map_map]
  exact h
 ·refine ((sortT_perm _).map _).trans ?_
  rw [List.map_map]
  have e:((fun l:List UInt8=>(⟨l.toArray⟩:ByteArray))∘fun s:ByteArray=>s.data.toList)=id:=by funext s;rfl
  rw [e,List.map_id]
def prA (x:ByteArray×Int):AV:= .agg [.str x.1,.int .i64 x.2]
@[simp] theorem okE_pr (x:ByteArray×Int):okE 2 (prA x):=⟨rfl,by simp [prA,AV.cells,solid]⟩
@[simp] theorem noIds_pr (x:ByteArray×Int):noIds (prA x)=true:=by simp [prA,noIds,noIdsL]
@[simp] theorem noIdsL_prs (l:List (ByteArray×Int)):noIdsL (l.map prA)=true:=noIdsL_of prA noIds_pr l
@[simp] theorem nJ_cons (x:AV) (r:List AV):noIdsL (x::r)=(noIds x&&noIdsL r):=rfl
@[simp] theorem nJ_nil:noIdsL []=true:=rfl
@[simp] theorem nJ_agg (cs:List AV):noIds (.agg cs)=noIdsL cs:=rfl
@[simp] theorem nJ_str (s:ByteArray):noIds (.str s)=true:=rfl
@[simp] theorem nJ_int (k:IntKind) (n:Int):noIds (.int k n)=true:=rfl
@[simp] theorem nJ_seq (es:List AV) (c:Bool):noIds (.seq es c)=true:=rfl
abbrev Z1n2:Nat×AV:=(6,.map 100003)
abbrev Z1n3:Nat×AV:=(26,.seq (ss.map AV.str) false)
abbrev Z1n4:Nat×AV:=(27,.int .i64 ((ss.map AV.str).length:Nat))
theorem t78n (s:ByteArray) (m:Int) (i:Nat) (hi:i<ss.length) (hsm:ss.length<100000000) (hx:0≤(i:Int)∧(ss.map AV.str)[Int.toNat (i:Int)]? =some (.str s)) (hf:∃j,findA true (.str s) ((amK am).map AV.str) 0=some (some j)∧(amV am)[j]? =some (.int .i64 m)):EN 42 (loopOf Tryz.f78 0) ⟨[Z1n2,(7,.nils),Z1n3 ss,Z1n4 ss,(28,.int .i64 (i:Int))],[Z1n0 am,Z1n1]⟩ ⟨[Z1n2,(7,.row 60040 0 1),Z1n3 ss,Z1n4 ss,(28,.int .i64 ((i+1:Nat):Int))],[Z1n0 am,Z1n1,(60040,.row 2 [prA (s,m)])]⟩:=by
 exact gE ⟨rfl,rfl⟩ 60000 [.is true,.elt (.str s),.elt (.int .i64 m),.is true] [6,7,26,27,28] [K1 100003,K0 100501,(60039,.keep 60040 true)] (aC7 (d1 AV.str ss i (by omega)) hx hf (show 1≤List.length [AV.agg [AV.str s,AV.int .i64 m]]∧[AV.agg [AV.str s,AV.int .i64 m]]≠[]∧(∀(e:AV),e∈[AV.agg [AV.str s,AV.int .i64 m]]→okE 2 e)∧(∀(e:AV),e∈[]→okE 2 e)∧(↑(0+List.length [AV.agg [AV.str s,AV.int .i64 m]]):Int)*24≤140737488355328∧0+List.length [AV.agg [AV.str s,AV.int .i64 m]]≤9223372036854775807 from by simp) (w1 i (by omega)) (zso2es am) rT)
abbrev Z1n5:Nat×Ob:=(60040,.row 2 (ps.map prA))
theorem t78r (hps:ps.length<100000000) (hok:∀(e:AV),e∈ps.map prA→okE 2 e) (ss:List ByteArray) (s:ByteArray) (m:Int) (i:Nat) (hi:i<ss.length) (hsm:ss.length<100000000) (hx:0≤(i:Int)∧(ss.map AV.str)[Int.toNat (i:Int)]? =some (.str s)) (hf:∃j,findA true (.str s) ((amK am).map AV.str) 0=some (some j)∧(amV am)[j]? =some (.int .i64 m)):EN 42 (loopOf Tryz.f78 0) ⟨[Z1n2,(7,.row 60040 0 (ps.map prA).length),Z1n3 ss,Z1n4 ss,(28,.int .i64 (i:Int))],[Z1n0 am,Z1n1,Z1n5 ps]⟩ ⟨[Z1n2,(7,.row 60040 0 ((ps.map prA).length+1)),Z1n3 ss,Z1n4 ss,(28,.int .i64 ((i+1:Nat):Int))],[Z1n0 am,Z1n1,(60040,.row 2 (ps.map prA++[prA (s,m)]))]⟩:=by
 exact gE ⟨rfl,rfl⟩ 60000 [.is true,.elt (.str s),.elt (.int .i64 m),.is true] [6,7,26,27,28] [K1 100003,K0 100501,(60039,.keep 60040 true)] (aC7 (d1 AV.str ss i (by omega)) hx hf (show (1:Nat)≤List.length [AV.agg [AV.str s,AV.int .i64 m]]∧(0:Nat)=(0:Nat)∧List.length (ps.map prA)=List.length (ps.map prA)∧(∀(e:AV),e∈[AV.agg [AV.str s,AV.int .i64 m]]→okE (2:Nat) e)∧(∀(e:AV),e∈List.map prA ps→okE (2:Nat) e)∧(↑(List.length (ps.map prA)+List.length [AV.agg [AV.str s,AV.int .i64 m]]):Int)*(24:Int)≤(140737488355328:Int)∧List.length (ps.map prA)+List.length [AV.agg [AV.str s,AV.int .i64 m]]≤(9223372036854775807:Nat) from by refine ⟨by simp,rfl,rfl,by simp,by assumption,?_,?_⟩<;>(simp;omega)) (w1 i (by omega)) (zso2es am) (show noIdsL (List.map prA ps++[AV.agg [AV.str s,AV.int .i64 m]])=true from by simp))
theorem zs85kc (ss:List ByteArray):decide ((↑ss.length:Int)<(↑(ss.map AV.str).length:Int))=false:=by simp
theorem e78n:En 42 (loopOf Tryz.f78 0) ⟨[Z1n2,(7,.nils),Z1n3 ss,Z1n4 ss,(28,.int .i64 ((ss.length:Nat):Int))],[Z1n0 am,Z1n1]⟩ (fun e t=>e= .exit 0∧t=⟨[(7,.nils)],[Z1n0 am,Z1n1]⟩):=by
 exact gE ⟨rfl,rfl⟩ 60000 [.is false] [7] [K1 100003,K0 100501] (aC2 (zs85kc ss) (zso2es am))
theorem e78r:En 42 (loopOf Tryz.f78 0) ⟨[Z1n2,(7,.row 60040 0 (ps.map prA).length),Z1n3 ss,Z1n4 ss,(28,.int .i64 ((ss.length:Nat):Int))],[Z1n0 am,Z1n1,Z1n5 ps]⟩ (fun e t=>e= .exit 0∧t=⟨[(7,.row 60040 0 (ps.map prA).length)],[Z1n0 am,Z1n1,Z1n5 ps]⟩):=by
 exact gE ⟨rfl,rfl⟩ 60000 [.is false] [7] [K1 100003,K0 100501,K1 60040] (aC3 (zs85kc ss) (zso2es am) (show noIdsL (ps.map prA)=true from by simp))
def lvP:Am→AV
 |[]=> .nils
 |x::r=> .row 60040 0 ((x::r).map prA).length
def loP:Am→List (Nat×Ob)
 |[]=>[]
 |x::r=>[(60040,.row 2 ((x::r).map prA))]
def st78 (am:Am) (ss:List ByteArray) (i:Int) (ps:Am):St:=⟨[Z1n2,(7,lvP ps),Z1n3 ss,Z1n4 ss,(28,.int .i64 i)],[Z1n0 am,Z1n1]++loP ps⟩
def sE78 (am:Am) (ps:Am):St:=⟨[(7,lvP ps)],[Z1n0 am,Z1n1]++loP ps⟩
theorem turn78 (i:Nat) (s:ByteArray) (m:Int) (hs:ss[i]? =some s) (hl:ss.length<100000000) (hps:ps.length<100000000) (hf:∃j,findA true (.str s) ((amK am).map AV.str) 0=some (some j)∧(amV am)[j]? =some (.int .i64 m)):
  Rz 42 (loopOf Tryz.f78 0) (st78 am ss (i:Int) ps) .normal (st78 am ss ((i+1:Nat):Int) (ps++[(s,m)])):=by
 have hi:i<ss.length:=(List.getElem?_eq_some_iff.1 hs).1
 have hx:0≤(i:Int)∧(ss.map AV.str)[Int.toNat (i:Int)]? =some (.str s):=⟨by omega,get_of AV.str hs⟩
 cases ps with
 |nil=>
  obtain ⟨e,t,⟨rfl,rfl⟩,r⟩:=t78n am ss s m i hi hl hx hf
  exact r
 |cons y r=>
  obtain ⟨e,t,⟨rfl,rfl⟩,r'⟩:=t78r am (y::r) hps (fun e he=>by obtain ⟨x,_,rfl⟩:=List.mem_map.1 he;exact okE_pr x) ss s m i hi hl hx hf
  have e1:(y::r)++[(s,m)]=y::(r++[(s,m)]):=rfl
  rw [e1]
  have e2:(((y::r).map prA).length+1:Nat)=((y::(r++[(s,m)])).map prA).length:=by simp
  have e3:(y::r).map prA++[prA (s,m)]=(y::(r++[(s,m)])).map prA:=by simp
  rw [e2,e3] at r'
  exact r'
theorem l78_0 (hl:ss.length<100000000) (hss:∀s,s∈ss→s∈amK am):
  ∃ps:Am,Lo 42 (loopOf Tryz.f78 0) (st78 am ss 0 []) (.exit 0) (sE78 am ps)∧ps.map Prod.fst=ss∧∀x,x∈ps→x∈am:=by
 refine (fun ⟨ps,⟨h1,h2⟩,h⟩=>⟨ps,h,by rw [h1,List.take_length],h2⟩) (inv_loop0 (P:=Tryz.prog) (n:=42) (c:=loopOf Tryz.f78 0) (N:=ss.length) (k:=0) (γ:=Am) (fun i g=>st78 am ss (i:Int) g) (fun g=>sE78 am g)
  (fun i g=>g.map Prod.fst=ss.take i∧∀x,x∈g→x∈am) (fun i g hi hg=> ?_) (fun g hg=> ?_) [] ⟨rfl,by simp⟩)
 ·have hs:ss[i]? =some ss[i]:=List.getElem?_eq_getElem hi
  obtain ⟨j,hf,hj⟩:=findA_some (i:=0) (hss _ (List.getElem_mem hi))
  rw [Nat.zero_add] at hf
  have hjl:j<am.length:=by have:=(List.getElem?_eq_some_iff.1 hj).1;simpa [amK] using this
  have hx:am[j]? =some am[j]:=List.getElem?_eq_getElem hjl
  have hs1:(am[j]).1=ss[i]:=by simpa [amK,hx] using hj
  have hlen:g.length=i:=by have:=congrArg List.length hg.1;simp at this;omega
  refine ⟨_,_,⟨rfl,g++[(ss[i],(am[j]).2)],⟨?_,fun x hx'=> ?_⟩,rfl⟩,turn78 am g ss i ss[i] (am[j]).2 hs hl (by omega) ⟨j,hf,amV_get hx⟩⟩
  ·rw [List.map_append,hg.1,List.take_add_one,hs];rfl
  ·rcases List.mem_append.1 hx' with q|q
   ·exact hg.2 x q
   ·rw [List.mem_singleton] at q;rw [q,←hs1];exact List.getElem_mem hjl
 ·cases g with
  |nil=>exact e78n am ss
  |cons y r=>exact e78r am (y::r) ss
end
section
variable (rs:List Ru) (am:Am)
abbrev Z1o0:Nat×AV:=(2,.elt 99995 0 0)
abbrev Z1o1:Nat×Ob:=(99995,.var [.seq (rs.map Ru.av) false])
abbrev Z1o9:St:=⟨[(1,.nils),Z1o0],[Z1o1 rs]⟩
theorem w78a:EN 42 (partC 0 (bodyOf Tryz.f78)) ⟨[(0,.agg [.seq (rs.map Ru.av) false]),(1,.nils)],[]⟩ (Z1o9 rs):=by
 exact gE ⟨rfl,rfl⟩ 99993 [] [1,2] [K1 99995] (aC1 rT)
abbrev Z1o2:Nat×AV:=(6,.map 100003)
abbrev Z1o3:Nat×Ob:=(100003,.map [] [])
abbrev Z1oa:St:=⟨[(1,.nils),Z1o0,Z1o2],[Z1o1 rs,Z1o3]⟩
theorem w78b:EN 42 (partC 1 (bodyOf Tryz.f78)) (Z1o9 rs) (Z1oa rs):=by
 exact gE ⟨rfl,rfl⟩ 99993 [] [1,2,6] [K1 99995,K1 100003] (aC2 rT rTT)
abbrev Z1o4:Nat×Ob:=(100003,.map (List.map AV.str (amK am)) (amV am))
theorem b78f (k126:Sp 126 [.seq (rs.map Ru.av) false,.clo 127 [.map 100003] []] (ap []) (.bool false) (ap am)):En 42 (restC 2 (bodyOf Tryz.f78)) (Z1oa rs) (fun e t=>e= .ret∧t=⟨[(4,.nils),(5,.int .i64 72)],ap am⟩):=by
 have hs0:=k126
 exact gE ⟨rfl,rfl⟩ 60000 [.call (.bool false) [100003] [Z1o4 am]] [4,5] [K1 100003] (aC2 hs0 (zso2es am))
abbrev Z1o5:Nat×Ob:=(100003,.map ((amK am).map AV.str) (amV am))
abbrev Z1o6:Nat×Ob:=(100501,.var [.map 100003])
abbrev Z1o7:Nat×AV:=(5,.int .i64 0)
abbrev Z1ob (ss:List ByteArray):St:=⟨[Z1o2,(7,.nils),(26,.seq (ss.map AV.str) false),(27,.int .i64 ((ss.map AV.str).length:Nat)),(28,.int .i64 0)],[Z1o5 am,Z1o6]⟩
theorem b78n (ss:List ByteArray) (k126:Sp 126 [.seq (rs.map Ru.av) false,.clo 127 [.map 100003] []] (ap []) (.bool true) (ap am)) (k130:Sp 130 [.clo 182 [] [.elt 100501 0 0]] [Z1o5 am,Z1o6] (.seq (ss.map .str) false) []) (l78_0q:Lo 42 (loopOf Tryz.f78 0) (Z1ob am ss) (.exit 0) ⟨[(7,.nils)],[Z1o5 am,Z1o6]⟩):En 42 (restC 2 (bodyOf Tryz.f78)) (Z1oa rs) (fun e t=>e= .ret∧t=⟨[(4,.nils),Z1o7],[Z1o5 am,Z1o6]⟩):=by
 have hs0:=k126
 have hs1:=k128 am
 have hs2:=k131 am
 have hs3:=k130
 have hl4:=l78_0q
 exact gE ⟨rfl,rfl⟩ 60000 [.call (.bool true) [100003] [Z1o4 am],.call (.bool true) [100003] [],.call (.clo 182 [] [.elt 100501 0 0]) [100003] [Z1o4 am,Z1o6],.call (.seq (ss.map AV.str) false) [100003,100501] [],.cut [6,7,26,27,28] [K1 100003,K0 100501],.sum (.exit 0) [(7,.nils)] [Z1o4 am,Z1o6]] [4,5] [K1 100003,K0 100501] (aC7 hs0 hs1 hs2 hs3 (zso2es am) hl4 (zso2es am))
abbrev Z1o8 (ps:Am):Nat×Ob:=(60040,.row 2 (ps.map prA))
theorem b78c (ps:Am) (ss:List ByteArray) (k126:Sp 126 [.seq (rs.map Ru.av) false,.clo 127 [.map 100003] []] (ap []) (.bool true) (ap am)) (k130:Sp 130 [.clo 182 [] [.elt 100501 0 0]] [Z1o5 am,Z1o6] (.seq (ss.map .str) false) []) (l78_0q:Lo 42 (loopOf Tryz.f78 0) (Z1ob am ss) (.exit 0) ⟨[(7,.row 60040 0 (ps.map prA).length)],[Z1o5 am,Z1o6,Z1o8 ps]⟩):En 42 (restC 2 (bodyOf Tryz.f78)) (Z1oa rs) (fun e t=>e= .ret∧t=⟨[(4,.row 60040 0 (ps.map prA).length),Z1o7],[Z1o5 am,Z1o6,Z1o8 ps]⟩):=by
 have hs0:=k126
 have hs1:=k128 am
 have hs2:=k131 am
 have hs3:=k130
 have hl4:=l78_0q
 exact gE ⟨rfl,rfl⟩ 60000 [.call (.bool true) [100003] [Z1o4 am],.call (.bool true) [100003] [],.call (.clo 182 [] [.elt 100501 0 0]) [100003] [Z1o4 am,Z1o6],.call (.seq (ss.map AV.str) false) [100003,100501] [],.cut [6,7,26,27,28] [K1 100003,K0 100501],.sum (.exit 0) [(7,.row 60040 0 (ps.map prA).length)] [Z1o4 am,Z1o6,Z1o8 ps]] [4,5] [K1 100003,K0 100501,K1 60040] (aC8 hs0 hs1 hs2 hs3 (zso2es am) hl4 (zso2es am) (show noIdsL (ps.map prA)=true from by simp))
def PredsOK (rs:List Ru) (rv:AV):Prop:=∃am ps:Am,((rv= .nils∧ps=[])∨rv= .seq (ps.map prA) false)∧(amK am).Nodup∧(∀r,r∈rs→numbR am r)∧(∀u,u∈amK am→∃r,r∈rs∧namesR r u)∧(∀u,u∈amK am→u∈ps.map Prod.fst)∧(∀x,x∈ps→x∈am)∧ps.length<100000000
abbrev Z1oc:St:=⟨[(4,.nils),(5,.int .i64 72)],[]⟩
theorem k78 (hsm:rs.length≤2000000) (hb:∀r,r∈rs→r.bd.length≤16) (hn:∀r,r∈rs→∀u,namesR r u→u.size≤1000000):
  ∃(rv:AV) (rn:Int),Sp 78 [.agg [.seq (rs.map Ru.av) false],.nils] [] (.tup [rv,.int .i64 rn]) []∧(rn=0→PredsOK rs rv):=by
 obtain ⟨e,s,⟨rfl,rfl⟩,r0⟩:=w78a rs
 obtain ⟨e,s,⟨rfl,rfl⟩,r1⟩:=w78b rs
 obtain ⟨rb,am,sp,hm⟩:=k126 rs [] (by omega) hb
 cases rb with
 |false=>
  obtain ⟨e,s,⟨rfl,rfl⟩,r2⟩:=b78f rs am sp
  have r:=RunsP.nth 0 (by kernel_rfl) r0.p (RunsP.nth 1 (by kernel_rfl) r1.p r2.p)
  have r':=r.keepR [4,5] [] (st':=Z1oc) (cs:=[]) rfl trivial
  exact ⟨.nils,72,Spec.pureP (st':=Z1oc) (fn:=Tryz.f78) (c:=bodyOf Tryz.f78) (by kernel_rfl) (by kernel_rfl) rfl r' (.inr rfl) (by kernel_rfl) rfl,fun h=>by cases h⟩
 |true=>
  obtain ⟨hst,hnum⟩:=hm rfl
  have hkeys:∀u,u∈amK am→∃r,r∈rs∧namesR r u:=fun u hu=>(hst.2.2.1 u hu).elim (fun q=>by simp [amK] at q) (fun q=>q)
  have hlen:am.length≤34000000:=by have:=hst.2.2.2;simp only [List.length_nil] at this;omega
  obtain ⟨ss,sp130,hperm⟩:=k130 am (fun u hu=>by obtain ⟨r,hr,hu'⟩:=hkeys u hu;exact hn r hr u hu') (by omega)
  have hssl:ss.length<100000000:=by rw [hperm.length_eq];simp only [amK,List.length_map];omega
  obtain ⟨ps,hL,hfst,hin⟩:=l78_0 am ss hssl (fun u hu=>hperm.mem_iff.1 hu)
  have fact:∀rv,((rv= .nils∧ps=[])∨rv= .seq (ps.map prA) false)→PredsOK rs rv:=fun rv hrv=>⟨am,ps,hrv,hst.2.1 (by simp [amK]),hnum,hkeys,fun u hu=>by rw [hfst];exact hperm.mem_iff.2 hu,hin,by have:=congrArg List.length hfst;rw [List.length_map] at this;omega⟩
  cases ps with
  |nil=>
   obtain ⟨e,s,⟨rfl,rfl⟩,r2⟩:=b78n rs am ss sp sp130 hL
   have r:=RunsP.nth 0 (by kernel_rfl) r0.p (RunsP.nth 1 (by kernel_rfl) r1.p r2.p)
   have r':=r.keepR [4,5] [] (st':=⟨[(4,.nils),Z1o7],[]⟩) (cs:=[]) rfl trivial
   exact ⟨.nils,0,Spec.pureP (st':=⟨[(4,.nils),Z1o7],[]⟩) (fn:=Tryz.f78) (c:=bodyOf Tryz.f78) (by kernel_rfl) (by kernel_rfl) rfl r' (.inr rfl) (by kernel_rfl) rfl,fun _=>fact _ (.inl ⟨rfl,rfl⟩)⟩
  |cons y q=>
   obtain ⟨e,s,⟨rfl,rfl⟩,r2⟩:=b78c rs am (y::q) ss sp sp130 hL
   have r:=RunsP.nth 0 (by kernel_rfl) r0.p (RunsP.nth 1 (by kernel_rfl) r1.p r2.p)
   have r':=r.keepR [4,5] [(60040,.freeze)] (st':=⟨[(4,.seq ((y::q).map prA) false),Z1o7],[]⟩) (cs:=[((y::q).map prA).length=((y::q).map prA).length,noIdsL ((y::q).map prA)=true]) rfl ⟨rfl,noIdsL_prs _,trivial⟩
   exact ⟨.seq ((y::q).map prA) false,0,Spec.pureP (st':=⟨[(4,.seq ((y::q).map prA) false),Z1o7],[]⟩) (fn:=Tryz.f78) (c:=bodyOf Tryz.f78) (by kernel_rfl) (by kernel_rfl) rfl r' (.inr rfl) (by kernel_rfl) rfl,fun _=>fact _ (.inr rfl)⟩
end
section
variable (vs l:List ByteArray) (v:ByteArray) (n i:Int)
def fp (l:List ByteArray):List (Nat×Ob):=[(100003,.map (l.map .str) (pos l)),(100005,.var [.own 1 (l.map .str),.map 100003])]
def addF (l:List ByteArray) (v:ByteArray):List ByteArray:=if v∈l then l else l++[v]
theorem addF_len:(addF l v).length≤l.length+1:=by
 unfold addF;split<;>simp
theorem obs_fp:∀id o,(id,o)∈fp l→renOb (idT (fp l)) o=o:=by
 intro id o hm
 simp only [fp,List.mem_cons,Prod.mk.injEq,List.not_mem_nil,or_false] at hm
 rcases hm with ⟨rfl,rfl⟩|⟨rfl,rfl⟩
 ·simp only [renOb,renL_noIds _ _ (noIdsL_strs l),renL_noIds _ _ (noIdsL_pos l)]
 ·rfl
abbrev Z1p0:Nat×AV:=(0,.elt 100005 0 0)
abbrev Z1p1:Nat×Ob:=(100003,.map (l.map AV.str) (pos l))
abbrev Z1p2:Nat×Ob:=(100005,.var [.own 1 (l.map AV.str),.map 100003])
abbrev Z1p9:St:=⟨[Z1p0,(1,.str v)],[Z1p1 l,Z1p2 l]⟩
abbrev Z1pd:List (Nat×Ob):=[Z1p1 l,Z1p2 l]
theorem w214a (j:Nat) (hf:∃i,findA true (.str v) (l.map AV.str) 0=some (some i)∧(pos l)[i]? =some (.int .i64 ((j+1:Nat):Int))):En 12 (bodyOf Tryz.f214) (Z1p9 l v) (fun e t=>e= .ret∧t=⟨[(4,.bool true)],(Z1pd l)⟩):=by
 exact gE ⟨rfl,rfl⟩ 60000 [.elt (.int .i64 (↑(j+1):Int)),.is true] [4] [K1 100003,K0 100005] (aC3 hf (show decide (0<(↑(j+1):Int))=true from decide_eq_true (by omega)) (zsq6af l))
theorem w214b (hf:findA true (.str v) (l.map AV.str) 0=some none):En 12 (bodyOf Tryz.f214) (Z1p9 l v) (fun e t=>e= .ret∧t=⟨[(4,.bool false)],(Z1pd l)⟩):=by
 exact gE ⟨rfl,rfl⟩ 60000 [.is false,.is false] [4] [K1 100003,K0 100005] (aC3 hf rF (zsq6af l))
theorem k214:Sp 214 [.elt 100005 0 0,.str v] (fp l) (.bool (decide (v∈l))) []:=by
 by_cases h3:v∈l
 ·obtain ⟨j,hf,hj⟩:=findA_some (i:=0) h3
  rw [Nat.zero_add] at hf
  have hjl:j<l.length:=(List.getElem?_eq_some_iff.1 hj).1
  obtain ⟨e,t,⟨rfl,rfl⟩,h⟩:=w214a l v j ⟨j,hf,pos_get hjl⟩
  rw [decide_eq_true h3]
  exact sT Tryz.f214 (obs_fp l) h (.inr rfl)
 ·obtain ⟨e,t,⟨rfl,rfl⟩,h⟩:=w214b l v (findA_none h3)
  rw [decide_eq_false h3]
  exact sT Tryz.f214 (obs_fp l) h (.inr rfl)
theorem w210a:EN 37 (condOf Tryz.f210 15) ⟨[(0,.elt 100005 0 0),(5,.str v),(6,.seq (vs.map .str) false),(7,.int .i64 n),(8,.int .i64 i),(15,.bool true)],[(100003,.map [] []),(100005,.var [.nils,.map 100003])]⟩ ⟨[(0,.elt 100005 0 0),(6,.seq (vs.map .str) false),(7,.int .i64 n),(8,.int .i64 i)],[(100003,.map [.str v] [.int .i64 1]),(100005,.var [.row 60023 0 1,.map 100003]),(60023,.row 1 [.str v])]⟩:=by
 exact gE ⟨rfl,rfl⟩ 60000 [.is true] [0,6,7,8] [K1 100003,K0 100005,K1 60023] (aC4 (show 1≤List.length [AV.str v]∧[AV.str v]≠[]∧(∀(e:AV),e∈[AV.str v]→okE 1 e)∧(∀(e:AV),e∈[]→okE 1 e)∧(↑(0+List.length [AV.str v]):Int)*16≤140737488355328∧0+List.length [AV.str v]≤9223372036854775807 from by simp) (show True from by simp) rTT rT)
theorem w210b (hf:findA true (.str v) (l.map AV.str) 0=some none) (hl:l.length<8796093022208):EN 37 (condOf Tryz.f210 15) ⟨[(0,.elt 100005 0 0),(5,.str v),(6,.seq (vs.map .str) false),(7,.int .i64 n),(8,.int .i64 i),(15,.bool true)],[(100003,.map (l.map .str) (pos l)),(100005,.var [.row 60500 0 (l.map AV.str).length,.map 100003]),(60500,.row 1 (l.map .str))]⟩ ⟨[(0,.elt 100005 0 0),(6,.seq (vs.map .str) false),(7,.int .i64 n),(8,.int .i64 i)],[(100003,.map (l.map .str++[.str v]) (pos l++[.int .i64 (((l.map AV.str).length+1:Nat):Int)])),(100005,.var [.row 60023 0 ((l.map AV.str).length+1),.map 100003]),(60023,.row 1 (l.map .str++[.str v]))]⟩:=by
 exact gE ⟨rfl,rfl⟩ 60000 [.elt (.int .i64 60023),.is false] [0,6,7,8] [K1 100003,K0 100005,K1 60023] (aC4 (show (1:Nat)≤List.length [AV.str v]∧(0:Nat)=(0:Nat)∧List.length (l.map AV.str)=List.length (l.map AV.str)∧(∀(e:AV),e∈[AV.str v]→okE (1:Nat) e)∧(∀(e:AV),e∈List.map AV.str l→okE (1:Nat) e)∧(↑(List.length (l.map AV.str)+List.length [AV.str v]):Int)*(16:Int)≤(140737488355328:Int)∧List.length (l.map AV.str)+List.length [AV.str v]≤(9223372036854775807:Nat) from by simp;omega) hf (zsxxbs l v) (zswnnl l v))
theorem w210c:EN 37 (condOf Tryz.f210 15) ⟨[(0,.elt 100005 0 0),(5,.str v),(6,.seq (vs.map .str) false),(7,.int .i64 n),(8,.int .i64 i),(15,.bool false)],[(100003,.map (l.map .str) (pos l)),(100005,.var [.own 1 (l.map .str),.map 100003])]⟩ ⟨[(0,.elt 100005 0 0),(6,.seq (vs.map .str) false),(7,.int .i64 n),(8,.int .i64 i)],[(100003,.map (l.map .str) (pos l)),(100005,.var [.own 1 (l.map .str),.map 100003])]⟩:=by
 exact gE ⟨rfl,rfl⟩ 60000 [] [0,6,7,8] [K1 100003,K0 100005] (aC1 (zsq6af l))
theorem close210 {P:Program} {n m:Nat} {c:Code} {st:St} {e:Out} {ks qs es:List AV} {env:List (Nat×AV)} (h:Runs P n c st e ⟨env,[(100003,.map ks qs),(100005,.var [.row 60023 0 m,.map 100003]),(60023,.row 1 es)]⟩)
  (hm:m=es.length) (h0:0<m) (h1:noIdsL es=true):Runs P n c st e ⟨env,[(100003,.map ks qs),(100005,.var [.own 1 es,.map 100003]),(60023,.dead)]⟩:=by
 subst hm
 have ht:es.take es.length=es:=List.take_length
 have a:=h.post (le_close (n:=n) (st:=⟨env,[(100003,.map ks qs),(100005,.var [.row 60023 0 es.length,.map 100003]),(60023,.row 1 es)]⟩) 100005 0 60023 (o:= .var [.row 60023 0 es.length,.map 100003]) rfl rfl rfl h0 (Nat.le_refl _) (by rw [ht];exact h1) (by simp [mid]))
 rw [ht] at a
 exact a
abbrev Z1p3:Nat×AV:=(6,.seq (vs.map AV.str) false)
theorem pc210_15 (vs:List ByteArray) (v:ByteArray) (n i:Int) (b:Bool) (hb:decide (v∈l)= !b) (hl:l.length<8796093022208):
  Rz 37 (condOf Tryz.f210 15) ⟨[Z1p0,(5,.str v),Z1p3 vs,(7,.int .i64 n),(8,.int .i64 i),(15,.bool b)],fp l⟩ .normal ⟨[Z1p0,Z1p3 vs,(7,.int .i64 n),(8,.int .i64 i)],fp (addF l v)⟩:=by
 cases b with
 |false=>
  have hv:v∈l:=of_decide_eq_true hb
  obtain ⟨e,t,⟨rfl,rfl⟩,h⟩:=w210c vs l v n i
  have:addF l v=l:=by unfold addF;rw [if_pos hv]
  rw [this];exact h
 |true=>
  have hv:v∉l:=of_decide_eq_false hb
  have:addF l v=l++[v]:=by unfold addF;rw [if_neg hv]
  rw [this]
  unfold fp
  rw [pos_app,List.map_append]
  by_cases hn:l=[]
  ·subst hn
   obtain ⟨e,t,⟨rfl,rfl⟩,h⟩:=w210a vs v n i
   have k:=close210 h rfl (by simp) rfl
   have k2:=k.pre (le_openNil (st:=⟨_,fp []⟩) 100005 0 (sz:=1) rfl rfl)
   exact k2.keepR [0,6,7,8] [K1 100003,K0 100005] (cs:=[true=true∧true=true]) rfl ⟨⟨rfl,rfl⟩,trivial⟩
  ·obtain ⟨e,t,⟨rfl,rfl⟩,h⟩:=w210b vs l v n i (findA_none hv) hl
   have k:=close210 h (by simp) (by simp) (by simp)
   have k2:=k.pre (le_open (st:=⟨_,fp l⟩) 100005 0 60500 (sz:=1) rfl rfl (by simpa using hn) rfl (by simp [mid]))
   have k3:=k2.keepR [0,6,7,8] [K1 100003,K0 100005] (cs:=[noIdsL (l.map AV.str++[.str v])=true∧noIdsL (pos l++[.int .i64 (((l.map AV.str).length+1:Nat):Int)])=true]) rfl ⟨⟨by simp,by simp⟩,trivial⟩
   rw [List.length_map] at k3
   exact k3
abbrev Z1p4:Nat×AV:=(7,.int .i64 ((vs.map AV.str).length:Nat))
abbrev Z1p5 (i:Nat):Nat×AV:=(8,.int .i64 (i:Int))
abbrev Z1p6:Nat×AV:=(7,.int .i64 (↑(vs.map AV.str).length:Int))
theorem t210 (i:Nat) (hi:i<vs.length) (hsm:vs.length≤9223372036854775807) (hl:l.length<8796093022208):En 37 (loopOf Tryz.f210 0) ⟨[Z1p0,Z1p3 vs,Z1p4 vs,Z1p5 i],fp l⟩ (fun e t=>e= .normal∧∃y,vs[i]? =some y∧t=⟨[Z1p0,Z1p3 vs,Z1p4 vs,(8,.int .i64 ((i+1:Nat):Int))],fp (addF l y)⟩):=by
 obtain ⟨x0,hm0,hx0⟩:=elt_of AV.str (l:=vs) (n:=(↑i:Int)) (by omega) (by omega)
 have hs1:=k214 l x0
 cases hb2:decide (x0∈l) with
 |true=>
  rw [hb2] at hs1
  have hl3:=pc210_15 l vs x0 ((↑(List.length (List.map AV.str vs)):Int)) ((↑i:Int)) (false) (by assumption) (by assumption)
  exact ⟨Out.normal,St.mk [Z1p0,Z1p3 vs,Z1p6 vs,(8,.int .i64 ((i:Int)+1))] [(100003,.map (List.map AV.str (addF l x0)) (pos (addF l x0))),(100005,.var [.own 1 (List.map AV.str (addF l x0)),.map 100003])],⟨rfl,x0,hm0,rfl⟩,gA 60000 [.is true,.elt (.str x0),.call (.bool true) [100003,100005] [],.cut [0,5,6,7,8,15] [K1 100003,K0 100005],.tell 100015 .normal [Z1p0,Z1p3 vs,Z1p6 vs,Z1p5 i] (fp (addF l x0))] [0,6,7,8] [K1 100003,K0 100005] (by kernel_rfl) (aC7 (d1 AV.str vs i (by omega)) hx0 hs1 (zsq6af l) hl3 (w1 i (by omega)) (show noIdsL (List.map AV.str (addF l x0))=true∧noIdsL (pos (addF l x0))=true from by simp))⟩
 |false=>
  rw [hb2] at hs1
  have hl3:=pc210_15 l vs x0 ((↑(List.length (List.map AV.str vs)):Int)) ((↑i:Int)) (true) (by assumption) (by assumption)
  exact ⟨Out.normal,St.mk [Z1p0,Z1p3 vs,Z1p6 vs,(8,.int .i64 ((i:Int)+1))] [(100003,.map (List.map AV.str (addF l x0)) (pos (addF l x0))),(100005,.var [.own 1 (List.map AV.str (addF l x0)),.map 100003])],⟨rfl,x0,hm0,rfl⟩,gA 60000 [.is true,.elt (.str x0),.call (.bool false) [100003,100005] [],.cut [0,5,6,7,8,15] [K1 100003,K0 100005],.tell 100015 .normal [Z1p0,Z1p3 vs,Z1p6 vs,Z1p5 i] (fp (addF l x0))] [0,6,7,8] [K1 100003,K0 100005] (by kernel_rfl) (aC7 (d1 AV.str vs i (by omega)) hx0 hs1 (zsq6af l) hl3 (w1 i (by omega)) (show noIdsL (List.map AV.str (addF l x0))=true∧noIdsL (pos (addF l x0))=true from by simp))⟩
theorem zs7ozj (vs:List ByteArray):decide ((↑vs.length:Int)<(↑(vs.map AV.str).length:Int))=false:=by simp
theorem e210:En 37 (loopOf Tryz.f210 0) ⟨[Z1p0,Z1p3 vs,Z1p4 vs,(8,.int .i64 ((vs.length:Nat):Int))],fp l⟩ (fun e t=>e= .exit 0∧t=⟨[],fp l⟩):=by
 exact gE ⟨rfl,rfl⟩ 60000 [.is false] [] [K1 100003,K0 100005] (aC2 (zs7ozj vs) (zsq6af l))
theorem l210_0 (hsm:vs.length≤9223372036854775807) (hl:l.length+vs.length<8796093022208):
  ∃l',Lo 37 (loopOf Tryz.f210 0) ⟨[Z1p0,Z1p3 vs,Z1p4 vs,(8,.int .i64 0)],fp l⟩ (.exit 0) ⟨[],fp l'⟩∧l'.length≤l.length+vs.length:=by
 refine (fun ⟨g,a,b⟩=>⟨g,b,a⟩) (inv_loop0 (P:=Tryz.prog) (n:=37) (c:=loopOf Tryz.f210 0) (N:=vs.length) (k:=0) (fun i g=>⟨[Z1p0,Z1p3 vs,Z1p4 vs,(8,.int .i64 (i:Int))],fp g⟩) (fun g=>⟨[],fp g⟩) (fun i g=>g.length≤l.length+i) (fun i g hi hg=> ?_) (fun g hg=>e210 vs g) l (by omega))
 obtain ⟨e,t,⟨rfl,y,hy,rfl⟩,h⟩:=t210 vs g i hi hsm (by omega)
 have:=addF_len g y
 exact ⟨_,_,⟨rfl,addF g y,by omega,rfl⟩,h⟩
theorem b210 (hsm:vs.length≤9223372036854775807) (hl:l.length+vs.length<8796093022208):En 37 (bodyOf Tryz.f210) ⟨[Z1p0,(1,.seq (vs.map AV.str) false)],fp l⟩ (fun e t=>e= .normal∧∃l',l'.length≤l.length+vs.length∧t=⟨[],fp l'⟩):=by
 obtain ⟨y0,⟨hl1,hl1'⟩⟩:=l210_0 vs l (by assumption) (by assumption)
 exact ⟨Out.normal,St.mk [] [(100003,.map (y0.map AV.str) (pos y0)),(100005,.var [.own 1 (y0.map AV.str),.map 100003])],⟨rfl,_,by assumption,rfl⟩,gA 60000 [.cut [0,6,7,8] [K1 100003,K0 100005],.sum (.exit 0) [] (fp y0)] [] [K1 100003,K0 100005] (by kernel_rfl) (aC3 (zsq6af l) hl1 (show noIdsL (y0.map AV.str)=true∧noIdsL (pos y0)=true from by simp))⟩
theorem k210 (hsm:vs.length≤9223372036854775807) (hl:l.length+vs.length<8796093022208):∃l',Sp 210 [.elt 100005 0 0,.seq (vs.map .str) false] (fp l) (.tup []) (fp l')∧l'.length≤l.length+vs.length:=by
 obtain ⟨e,t,⟨rfl,l',hl',rfl⟩,h⟩:=b210 vs l hsm hl
 exact ⟨l',sG Tryz.f210 (obs_fp l) h (.inl rfl),hl'⟩
abbrev Z1p7:Nat×AV:=(7,.seq (vs.map AV.str) false)
abbrev Z1p8:Nat×AV:=(8,.int .i64 ((vs.map AV.str).length:Nat))
abbrev Z1pa (i:Nat):St:=⟨[Z1p0,Z1p7 vs,Z1p8 vs,(9,.int .i64 (i:Int))],[Z1p1 l,Z1p2 l]⟩
theorem t176_0 (hsm:vs.length≤9223372036854775807) (i:Nat) (hi:i<vs.length):En 18 (loopOf Tryz.f176 0) (Z1pa vs l i) (fun e t=>(e= .ret∧∃rb,t=⟨[(4,.bool rb)],(Z1pd l)⟩)∨(e= .normal∧t=⟨[Z1p0,Z1p7 vs,Z1p8 vs,(9,.int .i64 ((i+1:Nat):Int))],(Z1pd l)⟩)):=by
 obtain ⟨x0,hm0,hx0⟩:=elt_of AV.str (l:=vs) (n:=(↑i:Int)) (by omega) (by omega)
 have hs1:=k214 l x0
 cases hb2:decide (x0∈l) with
 |true=>
  rw [hb2] at hs1
  exact gE (.inr ⟨rfl,rfl⟩) 0 [.is true,.elt (.str x0),.call (.bool true) [100003,100005] []] [0,7,8,9] [K1 100003,K0 100005] (aC5 (d1 AV.str vs i (by omega)) hx0 hs1 (w1 i (by omega)) (zsq6af l))
 |false=>
  rw [hb2] at hs1
  exact ⟨Out.ret,St.mk [(4,.bool false)] [Z1p1 l,Z1p2 l],.inl ⟨rfl,_,rfl⟩,gA 0 [.is true,.elt (.str x0),.call (.bool false) [100003,100005] []] [4] [K1 100003,K0 100005] (by kernel_rfl) (aC4 (d1 AV.str vs i (by omega)) hx0 hs1 (zsq6af l))⟩
abbrev Z1pb:St:=⟨[],[Z1p1 l,Z1p2 l]⟩
theorem e176_0 (hsm:vs.length≤9223372036854775807):En 18 (loopOf Tryz.f176 0) ⟨[Z1p0,Z1p7 vs,Z1p8 vs,(9,.int .i64 ((vs.length:Nat):Int))],(Z1pd l)⟩ (fun e t=>e= .exit 0∧t=(Z1pb l)):=by
 exact gE ⟨rfl,rfl⟩ 0 [.is false] [] [K1 100003,K0 100005] (aC2 (zs7ozj vs) (zsq6af l))
abbrev Z1pc:St:=⟨[Z1p0,Z1p7 vs,Z1p8 vs,(9,.int .i64 0)],[Z1p1 l,Z1p2 l]⟩
theorem l176_0 (hsm:vs.length≤9223372036854775807):(∃rb,Lo 18 (loopOf Tryz.f176 0) (Z1pc vs l) .ret ⟨[(4,.bool rb)],(Z1pd l)⟩)∨Lo 18 (loopOf Tryz.f176 0) (Z1pc vs l) (.exit 0) (Z1pb l):=by
 rcases range_ex (N:=vs.length) (k:=0) (fun i=>⟨[Z1p0,Z1p7 vs,Z1p8 vs,(9,.int .i64 (i:Int))],(Z1pd l)⟩) (Z1pb l) (fun t=>∃rb,t=⟨[(4,.bool rb)],(Z1pd l)⟩) (fun i hi=>t176_0 vs l hsm i hi) (e176_0 vs l hsm) with ⟨s,h,hq⟩|h
 ·obtain ⟨rb,rfl⟩:=hq;exact .inl ⟨rb,h⟩
 ·exact .inr h
theorem b176 (hsm:vs.length≤9223372036854775807):En 18 (bodyOf Tryz.f176) ⟨[Z1p0,(1,.seq (vs.map AV.str) false)],(Z1pd l)⟩ (fun e t=>e= .ret∧∃rb,t=⟨[(4,.bool rb)],(Z1pd l)⟩):=by
 rcases l176_0 (vs) (l) (by assumption) with o0|o0
 ·obtain ⟨y1,hl2⟩:=o0
  exact ⟨Out.ret,St.mk [(4,.bool y1)] [Z1p1 l,Z1p2 l],⟨rfl,_,rfl⟩,gA 0 [.cut [0,7,8,9] [K1 100003,K0 100005],.sum .ret [(4,.bool y1)] [Z1p1 l,Z1p2 l]] [4] [K1 100003,K0 100005] (by kernel_rfl) (aC3 (zsq6af l) hl2 (zsq6af l))⟩
 ·have hl1:=o0
  exact ⟨Out.ret,St.mk [(4,.bool true)] [Z1p1 l,Z1p2 l],⟨rfl,_,rfl⟩,gA 0 [.cut [0,7,8,9] [K1 100003,K0 100005],.sum (.exit 0) [] [Z1p1 l,Z1p2 l]] [4] [K1 100003,K0 100005] (by kernel_rfl) (aC3 (zsq6af l) hl1 (zsq6af l))⟩
theorem k176 (hsm:vs.length≤9223372036854775807):∃rb,Sp 176 [.elt 100005 0 0,.seq (vs.map .str) false] (fp l) (.bool rb) []:=by
 obtain ⟨e,t,⟨rfl,rb,rfl⟩,h⟩:=b176 vs l hsm
 exact ⟨rb,sT Tryz.f176 (obs_fp l) h (.inr rfl)⟩
end
section
variable (l:List ByteArray) (u:ByteArray)
theorem w210x100021a:EN 37 (condOf Tryz.f210 15) ⟨[(0,.elt 100005 0 0),(5,.str u),(6,.row 100021 0 1),(7,.int .i64 1),(8,.int .i64 0),(15,.bool true)],[(100003,.map [] []),(100005,.var [.nils,.map 100003]),(100021,.row 1 [.str u])]⟩ ⟨[(0,.elt 100005 0 0),(6,.row 100021 0 1),(7,.int .i64 1),(8,.int .i64 0)],[(100003,.map [.str u] [.int .i64 1]),(100005,.var [.row 60023 0 1,.map 100003]),(100021,.row 1 [.str u]),(60023,.row 1 [.str u])]⟩:=by
 exact gE ⟨rfl,rfl⟩ 60000 [.is true] [0,6,7,8] [K1 100003,K0 100005,K1 100021,K1 60023] (aC5 (show 1≤List.length [AV.str u]∧[AV.str u]≠[]∧(∀(e:AV),e∈[AV.str u]→okE 1 e)∧(∀(e:AV),e∈[]→okE 1 e)∧(↑(0+List.length [AV.str u]):Int)*16≤140737488355328∧0+List.length [AV.str u]≤9223372036854775807 from by simp) (show True from by simp) rTT rT rT)
theorem zs8ogl (l:List ByteArray) (u:ByteArray):noIdsL (List.map AV.str l++[AV.str u])=true∧noIdsL (pos l++[AV.int .i64 (↑(List.length (l.map AV.str)+List.length [AV.str u]):Int)])=true:=by simp
theorem zs3txn (l:List ByteArray) (u:ByteArray):noIdsL (List.map AV.str l++[AV.str u])=true:=by simp
theorem w210x100021b (hf:findA true (.str u) (l.map AV.str) 0=some none) (hl:l.length<8796093022208):EN 37 (condOf Tryz.f210 15) ⟨[(0,.elt 100005 0 0),(5,.str u),(6,.row 100021 0 1),(7,.int .i64 1),(8,.int .i64 0),(15,.bool true)],[(100003,.map (l.map .str) (pos l)),(100005,.var [.row 60500 0 (l.map AV.str).length,.map 100003]),(100021,.row 1 [.str u]),(60500,.row 1 (l.map .str))]⟩ ⟨[(0,.elt 100005 0 0),(6,.row 100021 0 1),(7,.int .i64 1),(8,.int .i64 0)],[(100003,.map (l.map .str++[.str u]) (pos l++[.int .i64 (((l.map AV.str).length+1:Nat):Int)])),(100005,.var [.row 60023 0 ((l.map AV.str).length+1),.map 100003]),(100021,.row 1 [.str u]),(60023,.row 1 (l.map .str++[.str u]))]⟩:=by
 exact gE ⟨rfl,rfl⟩ 60000 [.elt (.int .i64 60023),.is false] [0,6,7,8] [K1 100003,K0 100005,K1 100021,K1 60023] (aC5 (show (1:Nat)≤List.length [AV.str u]∧(0:Nat)=(0:Nat)∧List.length (l.map AV.str)=List.length (l.map AV.str)∧(∀(e:AV),e∈[AV.str u]→okE (1:Nat) e)∧(∀(e:AV),e∈List.map AV.str l→okE (1:Nat) e)∧(↑(List.length (l.map AV.str)+List.length [AV.str u]):Int)*(16:Int)≤(140737488355328:Int)∧List.length (l.map AV.str)+List.length [AV.str u]≤(9223372036854775807:Nat) from by simp;omega) hf (zs8ogl l u) rT (zs3txn l u))
theorem w210x100021c:EN 37 (condOf Tryz.f210 15) ⟨[(0,.elt 100005 0 0),(5,.str u),(6,.row 100021 0 1),(7,.int .i64 1),(8,.int .i64 0),(15,.bool false)],[(100003,.map (l.map .str) (pos l)),(100005,.var [.own 1 (l.map .str),.map 100003]),(100021,.row 1 [.str u])]⟩ ⟨[(0,.elt 100005 0 0),(6,.row 100021 0 1),(7,.int .i64 1),(8,.int .i64 0)],[(100003,.map (l.map .str) (pos l)),(100005,.var [.own 1 (l.map .str),.map 100003]),(100021,.row 1 [.str u])]⟩:=by
 exact gE ⟨rfl,rfl⟩ 60000 [] [0,6,7,8] [K1 100003,K0 100005,K1 100021] (aC2 (zsq6af l) rT)
theorem close210x100021 {P:Program} {n m:Nat} {c:Code} {st:St} {e:Out} {ks qs es:List AV} {u:ByteArray} {env:List (Nat×AV)} (h:Runs P n c st e ⟨env,[(100003,.map ks qs),(100005,.var [.row 60023 0 m,.map 100003]),(100021,.row 1 [.str u]),(60023,.row 1 es)]⟩)
  (hm:m=es.length) (h0:0<m) (h1:noIdsL es=true):Runs P n c st e ⟨env,[(100003,.map ks qs),(100005,.var [.own 1 es,.map 100003]),(100021,.row 1 [.str u]),(60023,.dead)]⟩:=by
 subst hm
 have ht:es.take es.length=es:=List.take_length
 have a:=h.post (le_close (n:=n) (st:=⟨env,[(100003,.map ks qs),(100005,.var [.row 60023 0 es.length,.map 100003]),(100021,.row 1 [.str u]),(60023,.row 1 es)]⟩) 100005 0 60023 (o:= .var [.row 60023 0 es.length,.map 100003]) rfl rfl rfl h0 (Nat.le_refl _) (by rw [ht];exact h1) (by simp [mid]))
 rw [ht] at a
 exact a
theorem pc210x100021 (l:List ByteArray) (u:ByteArray) (b:Bool) (hb:decide (u∈l)= !b) (hl:l.length<8796093022208):
  Rz 37 (condOf Tryz.f210 15) ⟨[(0,.elt 100005 0 0),(5,.str u),(6,.row 100021 0 1),(7,.int .i64 1),(8,.int .i64 0),(15,.bool b)],[(100003,.map (l.map .str) (pos l)),(100005,.var [.own 1 (l.map .str),.map 100003]),(100021,.row 1 [.str u])]⟩ .normal ⟨[(0,.elt 100005 0 0),(6,.row 100021 0 1),(7,.int .i64 1),(8,.int .i64 0)],[(100003,.map (List.map .str (addF l u)) (pos (addF l u))),(100005,.var [.own 1 (List.map .str (addF l u)),.map 100003]),(100021,.row 1 [.str u])]⟩:=by
 cases b with
 |false=>
  have hv:u∈l:=of_decide_eq_true hb
  obtain ⟨e,t,⟨rfl,rfl⟩,h⟩:=w210x100021c l u
  have:addF l u=l:=by unfold addF;rw [if_pos hv]
  rw [this];exact h
 |true=>
  have hv:u∉l:=of_decide_eq_false hb
  have:addF l u=l++[u]:=by unfold addF;rw [if_neg hv]
  rw [this]
  rw [pos_app,List.map_append]
  by_cases hn:l=[]
  ·subst hn
   obtain ⟨e,t,⟨rfl,rfl⟩,h⟩:=w210x100021a u
   have k:=close210x100021 h rfl (by simp) rfl
   have k2:=k.pre (le_openNil (st:=⟨_,[(100003,.map (List.map .str []) (pos [])),(100005,.var [.own 1 (List.map .str []),.map 100003]),(100021,.row 1 [.str u])]⟩) 100005 0 (sz:=1) rfl rfl)
   exact k2.keepR [0,6,7,8] [K1 100003,K0 100005,K1 100021] (cs:=[true=true∧true=true,true=true]) rfl ⟨⟨rfl,rfl⟩,rfl,trivial⟩
  ·obtain ⟨e,t,⟨rfl,rfl⟩,h⟩:=w210x100021b l u (findA_none hv) hl
   have k:=close210x100021 h (by simp) (by simp) (by simp)
   have k2:=k.pre (le_open (st:=⟨_,[(100003,.map (l.map .str) (pos l)),(100005,.var [.own 1 (l.map .str),.map 100003]),(100021,.row 1 [.str u])]⟩) 100005 0 60500 (sz:=1) rfl rfl (by simpa using hn) rfl (by simp [mid]))
   have k3:=k2.keepR [0,6,7,8] [K1 100003,K0 100005,K1 100021] (cs:=[noIdsL (l.map AV.str++[.str u])=true∧noIdsL (pos l++[.int .i64 (((l.map AV.str).length+1:Nat):Int)])=true,true=true]) rfl ⟨⟨by simp,by simp⟩,rfl,trivial⟩
   rw [List.length_map] at k3
   exact k3
theorem w210x100043a:EN 37 (condOf Tryz.f210 15) ⟨[(0,.elt 100005 0 0),(5,.str u),(6,.row 100043 0 1),(7,.int .i64 1),(8,.int .i64 0),(15,.bool true)],[(100003,.map [] []),(100005,.var [.nils,.map 100003]),(100043,.row 1 [.str u])]⟩ ⟨[(0,.elt 100005 0 0),(6,.row 100043 0 1),(7,.int .i64 1),(8,.int .i64 0)],[(100003,.map [.str u] [.int .i64 1]),(100005,.var [.row 60023 0 1,.map 100003]),(100043,.row 1 [.str u]),(60023,.row 1 [.str u])]⟩:=by
 exact gE ⟨rfl,rfl⟩ 60000 [.is true] [0,6,7,8] [K1 100003,K0 100005,K1 100043,K1 60023] (aC5 (show 1≤List.length [AV.str u]∧[AV.str u]≠[]∧(∀(e:AV),e∈[AV.str u]→okE 1 e)∧(∀(e:AV),e∈[]→okE 1 e)∧(↑(0+List.length [AV.str u]):Int)*16≤140737488355328∧0+List.length [AV.str u]≤9223372036854775807 from by simp) (show True from by simp) rTT rT rT)
theorem w210x100043b (hf:findA true (.str u) (l.map AV.str) 0=some none) (hl:l.length<8796093022208):EN 37 (condOf Tryz.f210 15) ⟨[(0,.elt 100005 0 0),(5,.str u),(6,.row 100043 0 1),(7,.int .i64 1),(8,.int .i64 0),(15,.bool true)],[(100003,.map (l.map .str) (pos l)),(100005,.var [.row 60500 0 (l.map AV.str).length,.map 100003]),(100043,.row 1 [.str u]),(60500,.row 1 (l.map .str))]⟩ ⟨[(0,.elt 100005 0 0),(6,.row 100043 0 1),(7,.int .i64 1),(8,.int .i64 0)],[(100003,.map (l.map .str++[.str u]) (pos l++[.int .i64 (((l.map AV.str).length+1:Nat):Int)])),(100005,.var [.row 60023 0 ((l.map AV.str).length+1),.map 100003]),(100043,.row 1 [.str u]),(60023,.row 1 (l.map .str++[.str u]))]⟩:=by
 exact gE ⟨rfl,rfl⟩ 60000 [.elt (.int .i64 60023),.is false] [0,6,7,8] [K1 100003,K0 100005,K1 100043,K1 60023] (aC5 (show (1:Nat)≤List.length [AV.str u]∧(0:Nat)=(0:Nat)∧List.length (l.map AV.str)=List.length (l.map AV.str)∧(∀(e:AV),e∈[AV.str u]→okE (1:Nat) e)∧(∀(e:AV),e∈List.map AV.str l→okE (1:Nat) e)∧(↑(List.length (l.map AV.str)+List.length [AV.str u]):Int)*(16:Int)≤(140737488355328:Int)∧List.length (l.map AV.str)+List.length [AV.str u]≤(9223372036854775807:Nat) from by simp;omega) hf (zs8ogl l u) rT (zs3txn l u))
theorem w210x100043c:EN 37 (condOf Tryz.f210 15) ⟨[(0,.elt 100005 0 0),(5,.str u),(6,.row 100043 0 1),(7,.int .i64 1),(8,.int .i64 0),(15,.bool false)],[(100003,.map (l.map .str) (pos l)),(100005,.var [.own 1 (l.map .str),.map 100003]),(100043,.row 1 [.str u])]⟩ ⟨[(0,.elt 100005 0 0),(6,.row 100043 0 1),(7,.int .i64 1),(8,.int .i64 0)],[(100003,.map (l.map .str) (pos l)),(100005,.var [.own 1 (l.map .str),.map 100003]),(100043,.row 1 [.str u])]⟩:=by
 exact gE ⟨rfl,rfl⟩ 60000 [] [0,6,7,8] [K1 100003,K0 100005,K1 100043] (aC2 (zsq6af l) rT)
theorem close210x100043 {P:Program} {n m:Nat} {c:Code} {st:St} {e:Out} {ks qs es:List AV} {u:ByteArray} {env:List (Nat×AV)} (h:Runs P n c st e ⟨env,[(100003,.map ks qs),(100005,.var [.row 60023 0 m,.map 100003]),(100043,.row 1 [.str u]),(60023,.row 1 es)]⟩)
  (hm:m=es.length) (h0:0<m) (h1:noIdsL es=true):Runs P n c st e ⟨env,[(100003,.map ks qs),(100005,.var [.own 1 es,.map 100003]),(100043,.row 1 [.str u]),(60023,.dead)]⟩:=by
 subst hm
 have ht:es.take es.length=es:=List.take_length
 have a:=h.post (le_close (n:=n) (st:=⟨env,[(100003,.map ks qs),(100005,.var [.row 60023 0 es.length,.map 100003]),(100043,.row 1 [.str u]),(60023,.row 1 es)]⟩) 100005 0 60023 (o:= .var [.row 60023 0 es.length,.map 100003]) rfl rfl rfl h0 (Nat.le_refl _) (by rw [ht];exact h1) (by simp [mid]))
 rw [ht] at a
 exact a
theorem pc210x100043 (l:List ByteArray) (u:ByteArray) (b:Bool) (hb:decide (u∈l)= !b) (hl:l.length<8796093022208):
  Rz 37 (condOf Tryz.f210 15) ⟨[(0,.elt 100005 0 0),(5,.str u),(6,.row 100043 0 1),(7,.int .i64 1),(8,.int .i64 0),(15,.bool b)],[(100003,.map (l.map .str) (pos l)),(100005,.var [.own 1 (l.map .str),.map 100003]),(100043,.row 1 [.str u])]⟩ .normal ⟨[(0,.elt 100005 0 0),(6,.row 100043 0 1),(7,.int .i64 1),(8,.int .i64 0)],[(100003,.map (List.map .str (addF l u)) (pos (addF l u))),(100005,.var [.own 1 (List.map .str (addF l u)),.map 100003]),(100043,.row 1 [.str u])]⟩:=by
 cases b with
 |false=>
  have hv:u∈l:=of_decide_eq_true hb
  obtain ⟨e,t,⟨rfl,rfl⟩,h⟩:=w210x100043c l u
  have:addF l u=l:=by unfold addF;rw [if_pos hv]
  rw [this];exact h
 |true=>
  have hv:u∉l:=of_decide_eq_false hb
  have:addF l u=l++[u]:=by unfold addF;rw [if_neg hv]
  rw [this]
  rw [pos_app,List.map_append]
  by_cases hn:l=[]
  ·subst hn
   obtain ⟨e,t,⟨rfl,rfl⟩,h⟩:=w210x100043a u
   have k:=close210x100043 h rfl (by simp) rfl
   have k2:=k.pre (le_openNil (st:=⟨_,[(100003,.map (List.map .str []) (pos [])),(100005,.var [.own 1 (List.map .str []),.map 100003]),(100043,.row 1 [.str u])]⟩) 100005 0 (sz:=1) rfl rfl)
   exact k2.keepR [0,6,7,8] [K1 100003,K0 100005,K1 100043] (cs:=[true=true∧true=true,true=true]) rfl ⟨⟨rfl,rfl⟩,rfl,trivial⟩
  ·obtain ⟨e,t,⟨rfl,rfl⟩,h⟩:=w210x100043b l u (findA_none hv) hl
   have k:=close210x100043 h (by simp) (by simp) (by simp)
   have k2:=k.pre (le_open (st:=⟨_,[(100003,.map (l.map .str) (pos l)),(100005,.var [.own 1 (l.map .str),.map 100003]),(100043,.row 1 [.str u])]⟩) 100005 0 60500 (sz:=1) rfl rfl (by simpa using hn) rfl (by simp [mid]))
   have k3:=k2.keepR [0,6,7,8] [K1 100003,K0 100005,K1 100043] (cs:=[noIdsL (l.map AV.str++[.str u])=true∧noIdsL (pos l++[.int .i64 (((l.map AV.str).length+1:Nat):Int)])=true,true=true]) rfl ⟨⟨by simp,by simp⟩,rfl,trivial⟩
   rw [List.length_map] at k3
   exact k3
theorem zs6ibr (l:List ByteArray) (u:ByteArray):noIdsL (List.map AV.str (addF l u))=true∧noIdsL (pos (addF l u))=true:=by simp
abbrev Z1q0:Nat×AV:=(0,.elt 100005 0 0)
abbrev Z1q1:Nat×AV:=(6,.row 100021 0 1)
abbrev Z1q2:Nat×AV:=(7,.int .i64 1)
abbrev Z1q3:Nat×AV:=(8,.int .i64 0)
abbrev Z1q4:Nat×Ob:=(100003,.map (l.map AV.str) (pos l))
abbrev Z1q5:Nat×Ob:=(100005,.var [.own 1 (l.map AV.str),.map 100003])
abbrev Z1q6:Nat×Ob:=(100021,.row 1 [.str u])
abbrev Z1q7:Nat×Ob:=(100003,.map (List.map AV.str (addF l u)) (pos (addF l u)))
abbrev Z1q8:Nat×Ob:=(100005,.var [.own 1 (List.map AV.str (addF l u)),.map 100003])
abbrev Z1q9:Nat×AV:=(8,.int .i64 1)
abbrev Z1qe:St:=⟨[Z1q0,Z1q1,Z1q2,Z1q3],[Z1q4 l,Z1q5 l,Z1q6 u]⟩
abbrev Z1qg:List (Nat×Ob):=[Z1q4 l,Z1q5 l,Z1q6 u]
theorem t210x100021 (pc210_15p:∀(b:Bool),decide (u∈l)= !b→Rz 37 (condOf Tryz.f210 15) ⟨[Z1q0,(5,.str u),Z1q1,Z1q2,Z1q3,(15,.bool b)],(Z1qg l u)⟩ .normal ⟨[Z1q0,Z1q1,Z1q2,Z1q3],[Z1q7 l u,Z1q8 l u,Z1q6 u]⟩):EN 37 (loopOf Tryz.f210 0) (Z1qe l u) ⟨[Z1q0,Z1q1,Z1q2,Z1q9],[Z1q7 l u,Z1q8 l u,Z1q6 u]⟩:=by
 have hs0:=k214 l u
 cases hb1:decide (u∈l) with
 |true=>
  rw [hb1] at hs0
  have hl2:=pc210_15p false (by assumption)
  exact gE ⟨rfl,rfl⟩ 60000 [.is true,.elt (.str u),.call (.bool true) [100003,100005] [],.cut [0,5,6,7,8,15] [K1 100003,K0 100005,K1 100021],.tell 100015 .normal [Z1q0,Z1q1,Z1q2,Z1q3] [Z1q7 l u,Z1q8 l u,Z1q6 u]] [0,6,7,8] [K1 100003,K0 100005,K1 100021] (aC10 rT (show (0:Int)≤(0:Int)∧(0:Int)<(1:Int) from by omega) (show (some (AV.str u):Option AV)=some (AV.str u) from rfl) hs0 (zsq6af l) rT hl2 (show (1:Int)=(1:Int) from rfl) (zs6ibr l u) rT)
 |false=>
  rw [hb1] at hs0
  have hl2:=pc210_15p true (by assumption)
  exact gE ⟨rfl,rfl⟩ 60000 [.is true,.elt (.str u),.call (.bool false) [100003,100005] [],.cut [0,5,6,7,8,15] [K1 100003,K0 100005,K1 100021],.tell 100015 .normal [Z1q0,Z1q1,Z1q2,Z1q3] [Z1q7 l u,Z1q8 l u,Z1q6 u]] [0,6,7,8] [K1 100003,K0 100005,K1 100021] (aC10 rT (show (0:Int)≤(0:Int)∧(0:Int)<(1:Int) from by omega) (show (some (AV.str u):Option AV)=some (AV.str u) from rfl) hs0 (zsq6af l) rT hl2 (show (1:Int)=(1:Int) from rfl) (zs6ibr l u) rT)
theorem e210x100021:En 37 (loopOf Tryz.f210 0) ⟨[Z1q0,Z1q1,Z1q2,Z1q9],(Z1qg l u)⟩ (fun e t=>e= .exit 0∧t=⟨[],(Z1qg l u)⟩):=by
 exact gE ⟨rfl,rfl⟩ 60000 [.is false] [] [K1 100003,K0 100005,K1 100021] (aC3 rF (zsq6af l) rT)
theorem zski2r (l2:List ByteArray):noIdsL (l2.map AV.str)=true∧noIdsL (pos l2)=true:=by simp
abbrev Z1qa (l2:List ByteArray):Nat×Ob:=(100003,.map (l2.map AV.str) (pos l2))
abbrev Z1qb (l2:List ByteArray):Nat×Ob:=(100005,.var [.own 1 (l2.map AV.str),.map 100003])
theorem b210x100021 (l2:List ByteArray) (u:ByteArray) (l210_0q:Lo 37 (loopOf Tryz.f210 0) (Z1qe l u) (.exit 0) ⟨[],[Z1qa l2,Z1qb l2,Z1q6 u]⟩):EN 37 (bodyOf Tryz.f210) ⟨[Z1q0,(1,.row 100021 0 1)],(Z1qg l u)⟩ ⟨[],[Z1qa l2,Z1qb l2,Z1q6 u]⟩:=by
 have hl0:=l210_0q
 exact gE ⟨rfl,rfl⟩ 60000 [.cut [0,6,7,8] [K1 100003,K0 100005,K1 100021],.sum (.exit 0) [] [Z1qa l2,Z1qb l2,Z1q6 u]] [] [K1 100003,K0 100005,K1 100021] (aC5 (zsq6af l) rT hl0 (zski2r l2) rT)
theorem k210a (hl:l.length<8796093022208):Sp 210 [.elt 100005 0 0,.row 100021 0 1] [Z1q4 l,Z1q5 l,Z1q6 u] (.tup []) [Z1q7 l u,Z1q8 l u,Z1q6 u]:=by
 obtain ⟨e,t,⟨rfl,rfl⟩,h1⟩:=t210x100021 l u (fun b hb=>pc210x100021 l u b hb hl)
 obtain ⟨e,t,⟨rfl,rfl⟩,h2⟩:=e210x100021 (addF l u) u
 obtain ⟨e,t,⟨rfl,rfl⟩,h⟩:=b210x100021 l (addF l u) u (.turn h1 (.leave h2 (by simp)))
 refine sG Tryz.f210 ?_ h (.inl rfl)
 intro id o hm
 simp only [List.mem_cons,Prod.mk.injEq,List.not_mem_nil,or_false] at hm
 rcases hm with ⟨rfl,rfl⟩|⟨rfl,rfl⟩|⟨rfl,rfl⟩
 ·simp only [renOb,renL_noIds _ _ (noIdsL_strs l),renL_noIds _ _ (noIdsL_pos l)]
 ·rfl
 ·rfl
abbrev Z1qc:Nat×AV:=(6,.row 100043 0 1)
abbrev Z1qd:Nat×Ob:=(100043,.row 1 [.str u])
abbrev Z1qf:St:=⟨[Z1q0,Z1qc,Z1q2,Z1q3],[Z1q4 l,Z1q5 l,Z1qd u]⟩
abbrev Z1qh:List (Nat×Ob):=[Z1q4 l,Z1q5 l,Z1qd u]
theorem t210x100043 (pc210_15p:∀(b:Bool),decide (u∈l)= !b→Rz 37 (condOf Tryz.f210 15) ⟨[Z1q0,(5,.str u),Z1qc,Z1q2,Z1q3,(15,.bool b)],(Z1qh l u)⟩ .normal ⟨[Z1q0,Z1qc,Z1q2,Z1q3],[Z1q7 l u,Z1q8 l u,Z1qd u]⟩):EN 37 (loopOf Tryz.f210 0) (Z1qf l u) ⟨[Z1q0,Z1qc,Z1q2,Z1q9],[Z1q7 l u,Z1q8 l u,Z1qd u]⟩:=by
 have hs0:=k214 l u
 cases hb1:decide (u∈l) with
 |true=>
  rw [hb1] at hs0
  have hl2:=pc210_15p false (by assumption)
  exact gE ⟨rfl,rfl⟩ 60000 [.is true,.elt (.str u),.call (.bool true) [100003,100005] [],.cut [0,5,6,7,8,15] [K1 100003,K0 100005,K1 100043],.tell 100015 .normal [Z1q0,Z1qc,Z1q2,Z1q3] [Z1q7 l u,Z1q8 l u,Z1qd u]] [0,6,7,8] [K1 100003,K0 100005,K1 100043] (aC10 rT (show (0:Int)≤(0:Int)∧(0:Int)<(1:Int) from by omega) (show (some (AV.str u):Option AV)=some (AV.str u) from rfl) hs0 (zsq6af l) rT hl2 (show (1:Int)=(1:Int) from rfl) (zs6ibr l u) rT)
 |false=>
  rw [hb1] at hs0
  have hl2:=pc210_15p true (by assumption)
  exact gE ⟨rfl,rfl⟩ 60000 [.is true,.elt (.str u),.call (.bool false) [100003,100005] [],.cut [0,5,6,7,8,15] [K1 100003,K0 100005,K1 100043],.tell 100015 .normal [Z1q0,Z1qc,Z1q2,Z1q3] [Z1q7 l u,Z1q8 l u,Z1qd u]] [0,6,7,8] [K1 100003,K0 100005,K1 100043] (aC10 rT (show (0:Int)≤(0:Int)∧(0:Int)<(1:Int) from by omega) (show (some (AV.str u):Option AV)=some (AV.str u) from rfl) hs0 (zsq6af l) rT hl2 (show (1:Int)=(1:Int) from rfl) (zs6ibr l u) rT)
theorem e210x100043:En 37 (loopOf Tryz.f210 0) ⟨[Z1q0,Z1qc,Z1q2,Z1q9],(Z1qh l u)⟩ (fun e t=>e= .exit 0∧t=⟨[],(Z1qh l u)⟩):=by
 exact gE ⟨rfl,rfl⟩ 60000 [.is false] [] [K1 100003,K0 100005,K1 100043] (aC3 rF (zsq6af l) rT)
theorem b210x100043 (l2:List ByteArray) (u:ByteArray) (l210_0q:Lo 37 (loopOf Tryz.f210 0) (Z1qf l u) (.exit 0) ⟨[],[Z1qa l2,Z1qb l2,Z1qd u]⟩):EN 37 (bodyOf Tryz.f210) ⟨[Z1q0,(1,.row 100043 0 1)],(Z1qh l u)⟩ ⟨[],[Z1qa l2,Z1qb l2,Z1qd u]⟩:=by
 have hl0:=l210_0q
 exact gE ⟨rfl,rfl⟩ 60000 [.cut [0,6,7,8] [K1 100003,K0 100005,K1 100043],.sum (.exit 0) [] [Z1qa l2,Z1qb l2,Z1qd u]] [] [K1 100003,K0 100005,K1 100043] (aC5 (zsq6af l) rT hl0 (zski2r l2) rT)
theorem k210b (hl:l.length<8796093022208):Sp 210 [.elt 100005 0 0,.row 100043 0 1] [Z1q4 l,Z1q5 l,Z1qd u] (.tup []) [Z1q7 l u,Z1q8 l u,Z1qd u]:=by
 obtain ⟨e,t,⟨rfl,rfl⟩,h1⟩:=t210x100043 l u (fun b hb=>pc210x100043 l u b hb hl)
 obtain ⟨e,t,⟨rfl,rfl⟩,h2⟩:=e210x100043 (addF l u) u
 obtain ⟨e,t,⟨rfl,rfl⟩,h⟩:=b210x100043 l (addF l u) u (.turn h1 (.leave h2 (by simp)))
 refine sG Tryz.f210 ?_ h (.inl rfl)
 intro id o hm
 simp only [List.mem_cons,Prod.mk.injEq,List.not_mem_nil,or_false] at hm
 rcases hm with ⟨rfl,rfl⟩|⟨rfl,rfl⟩|⟨rfl,rfl⟩
 ·simp only [renOb,renL_noIds _ _ (noIdsL_strs l),renL_noIds _ _ (noIdsL_pos l)]
 ·rfl
 ·rfl
end
abbrev Z1r0:Nat×AV:=(2,.str (ByteArray.mk #[]))
theorem b211 (x:Ex):En 21 (bodyOf Tryz.f211) ⟨[(0,.agg x.cells)],[]⟩ (fun e t=>e= .ret∧∃rs,t=⟨[(2,.str rs)],[]⟩):=by
 rcases bft (decide (Ex.op x=0)) with h0|h0
 ·rcases bft (decide (0<(↑(List.length (List.map Ex.av (Ex.kids x))):Int))) with h1|h1
  ·exact ⟨Out.ret,St.mk [Z1r0] [],⟨rfl,_,rfl⟩,gA 0 [.is false,.is true] [2] [] (by kernel_rfl) (aC2 (nF h0) h1)⟩
  ·rcases bft (decide (Tm.v (Ex.t x)=ByteArray.mk #[95])) with h2|h2
   ·exact ⟨Out.ret,St.mk [Z1r0] [],⟨rfl,_,rfl⟩,gA 0 [.is false,.is false,.is true] [2] [] (by kernel_rfl) (aC3 (nF h0) h1 h2)⟩
   ·exact ⟨Out.ret,St.mk [(2,.str (Ex.t x).1)] [],⟨rfl,_,rfl⟩,gA 0 [.is false,.is false,.is false] [2] [] (by kernel_rfl) (aC3 (nF h0) h1 h2)⟩
 ·exact ⟨Out.ret,St.mk [Z1r0] [],⟨rfl,_,rfl⟩,gA 0 [.is true] [2] [] (by kernel_rfl) (aC1 (nT h0))⟩
theorem k211 (x:Ex):∃rs,Sp 211 [.agg x.cells] [] (.str rs) []:=by
 obtain ⟨e,t,⟨rfl,rs,rfl⟩,h⟩:=b211 x
 exact ⟨rs,sP Tryz.f211 (by first|rfl|simp [noIdsL,noIds]) h (.inr rfl)⟩
structure Eqn where
 a:ByteArray
 b:ByteArray
 ls:List ByteArray
 rs:List ByteArray
def Eqn.av (q:Eqn):AV:= .agg [.str q.a,.str q.b,.seq (q.ls.map .str) false,.seq (q.rs.map .str) false]
theorem zskfge (l:List ByteArray) (b:ByteArray):noIdsL (List.map AV.str (addF l b))=true∧noIdsL (pos (addF l b))=true:=by simp
abbrev Z1r1 (l:List ByteArray):Nat×Ob:=(100003,.map (l.map AV.str) (pos l))
abbrev Z1r2 (l:List ByteArray):Nat×Ob:=(100005,.var [.own 1 (l.map AV.str),.map 100003])
abbrev Z1r3 (l':List ByteArray):Nat×Ob:=(100003,.map (l'.map AV.str) (pos l'))
abbrev Z1r4 (l':List ByteArray):Nat×Ob:=(100005,.var [.own 1 (l'.map AV.str),.map 100003])
abbrev Z1r5 (b:ByteArray):Nat×Ob:=(100043,.row 1 [.str b])
abbrev Z1r6:Nat×AV:=(4,.bool false)
abbrev Z1r7:Nat×AV:=(4,.bool true)
abbrev Z1r8 (l:List ByteArray) (b:ByteArray):Nat×Ob:=(100003,.map (List.map AV.str (addF l b)) (pos (addF l b)))
abbrev Z1r9 (l:List ByteArray) (b:ByteArray):Nat×Ob:=(100005,.var [.own 1 (List.map AV.str (addF l b)),.map 100003])
theorem b213 (l:List ByteArray) (a b:ByteArray) (ls rs:List ByteArray) (hl:l.length<8796093022208) (hls:ls.length≤9223372036854775807) (hrs:rs.length≤9223372036854775807):En 49 (bodyOf Tryz.f213) ⟨[(0,.elt 100005 0 0),(1,.agg [.str a,.str b,.seq (ls.map AV.str) false,.seq (rs.map AV.str) false])],[Z1r1 l,Z1r2 l]⟩ (fun e t=>e= .ret∧∃rb:Bool,(∃l':List ByteArray,l'.length≤l.length+1∧t=⟨[(4,.bool rb)],[Z1r3 l',Z1r4 l']⟩)∨(∃l':List ByteArray,l'.length≤l.length+1∧t=⟨[(4,.bool rb)],[Z1r3 l',Z1r4 l',(100021,.row 1 [.str a])]⟩)∨(∃l':List ByteArray,l'.length≤l.length+1∧t=⟨[(4,.bool rb)],[Z1r3 l',Z1r4 l',Z1r5 b]⟩)):=by
 rcases bft (decide (a=ByteArray.mk #[])) with h0|h0
 ·rcases bft (decide (b=ByteArray.mk #[])) with h1|h1
  ·exact ⟨Out.ret,St.mk [Z1r6] [Z1r1 l,Z1r2 l],by have:=addF_len l a;have:=addF_len l b;first|exact ⟨rfl,_,.inl ⟨l,by omega,rfl⟩⟩|exact ⟨rfl,_,.inr (.inl ⟨addF l a,by omega,rfl⟩)⟩|exact ⟨rfl,_,.inr (.inr ⟨addF l b,by omega,rfl⟩)⟩,gA 99996 [.is false,.is false] [4] [K1 100003,K0 100005] (by kernel_rfl) (aC3 (nF h0) (nF h1) (zsq6af l))⟩
  ·have hs2:=k214 l b
   cases hb3:decide (b∈l) with
   |true=>
    rw [hb3] at hs2
    exact ⟨Out.ret,St.mk [Z1r6] [Z1r1 l,Z1r2 l],by have:=addF_len l a;have:=addF_len l b;first|exact ⟨rfl,_,.inl ⟨l,by omega,rfl⟩⟩|exact ⟨rfl,_,.inr (.inl ⟨addF l a,by omega,rfl⟩)⟩|exact ⟨rfl,_,.inr (.inr ⟨addF l b,by omega,rfl⟩)⟩,gA 99996 [.is false,.is true,.call (.bool true) [100003,100005] []] [4] [K1 100003,K0 100005] (by kernel_rfl) (aC4 (nF h0) (nT h1) hs2 (zsq6af l))⟩
   |false=>
    rw [hb3] at hs2
    obtain ⟨r4,hs5⟩:=k176 ls l (by assumption)
    cases r4 with
    |true=>
     have hs6:=k210b l b (by assumption)
     exact ⟨Out.ret,St.mk [Z1r7] [Z1r8 l b,Z1r9 l b,Z1r5 b],by have:=addF_len l a;have:=addF_len l b;first|exact ⟨rfl,_,.inl ⟨l,by omega,rfl⟩⟩|exact ⟨rfl,_,.inr (.inl ⟨addF l a,by omega,rfl⟩)⟩|exact ⟨rfl,_,.inr (.inr ⟨addF l b,by omega,rfl⟩)⟩,gA 99996 [.is false,.is true,.call (.bool false) [100003,100005] [],.call (.bool true) [100003,100005] [],.call (.tup []) [100003,100005,100043] [Z1r8 l b,Z1r9 l b,Z1r5 b]] [4] [K1 100003,K0 100005,K1 100043] (by kernel_rfl) (aC7 (nF h0) (nT h1) hs2 hs5 hs6 (zskfge l b) rT)⟩
    |false=>
     exact ⟨Out.ret,St.mk [Z1r6] [Z1r1 l,Z1r2 l],by have:=addF_len l a;have:=addF_len l b;first|exact ⟨rfl,_,.inl ⟨l,by omega,rfl⟩⟩|exact ⟨rfl,_,.inr (.inl ⟨addF l a,by omega,rfl⟩)⟩|exact ⟨rfl,_,.inr (.inr ⟨addF l b,by omega,rfl⟩)⟩,gA 99996 [.is false,.is true,.call (.bool false) [100003,100005] [],.call (.bool false) [100003,100005] []] [4] [K1 100003,K0 100005] (by kernel_rfl) (aC5 (nF h0) (nT h1) hs2 hs5 (zsq6af l))⟩
 ·have hs1:=k214 l a
  cases hb2:decide (a∈l) with
  |true=>
   rw [hb2] at hs1
   rcases bft (decide (b=ByteArray.mk #[])) with h3|h3
   ·exact ⟨Out.ret,St.mk [Z1r6] [Z1r1 l,Z1r2 l],by have:=addF_len l a;have:=addF_len l b;first|exact ⟨rfl,_,.inl ⟨l,by omega,rfl⟩⟩|exact ⟨rfl,_,.inr (.inl ⟨addF l a,by omega,rfl⟩)⟩|exact ⟨rfl,_,.inr (.inr ⟨addF l b,by omega,rfl⟩)⟩,gA 99996 [.is true,.call (.bool true) [100003,100005] [],.is false] [4] [K1 100003,K0 100005] (by kernel_rfl) (aC4 (nT h0) hs1 (nF h3) (zsq6af l))⟩
   ·have hs4:=k214 l b
    cases hb5:decide (b∈l) with
    |true=>
     rw [hb5] at hs4
     exact ⟨Out.ret,St.mk [Z1r6] [Z1r1 l,Z1r2 l],by have:=addF_len l a;have:=addF_len l b;first|exact ⟨rfl,_,.inl ⟨l,by omega,rfl⟩⟩|exact ⟨rfl,_,.inr (.inl ⟨addF l a,by omega,rfl⟩)⟩|exact ⟨rfl,_,.inr (.inr ⟨addF l b,by omega,rfl⟩)⟩,gA 99996 [.is true,.call (.bool true) [100003,100005] [],.is true,.call (.bool true) [100003,100005] []] [4] [K1 100003,K0 100005] (by kernel_rfl) (aC5 (nT h0) hs1 (nT h3) hs4 (zsq6af l))⟩
    |false=>
     rw [hb5] at hs4
     obtain ⟨r6,hs7⟩:=k176 ls l (by assumption)
     cases r6 with
     |true=>
      have hs8:=k210b l b (by assumption)
      exact ⟨Out.ret,St.mk [Z1r7] [Z1r8 l b,Z1r9 l b,Z1r5 b],by have:=addF_len l a;have:=addF_len l b;first|exact ⟨rfl,_,.inl ⟨l,by omega,rfl⟩⟩|exact ⟨rfl,_,.inr (.inl ⟨addF l a,by omega,rfl⟩)⟩|exact ⟨rfl,_,.inr (.inr ⟨addF l b,by omega,rfl⟩)⟩,gA 99996 [.is true,.call (.bool true) [100003,100005] [],.is true,.call (.bool false) [100003,100005] [],.call (.bool true) [100003,100005] [],.call (.tup []) [100003,100005,100043] [Z1r8 l b,Z1r9 l b,Z1r5 b]] [4] [K1 100003,K0 100005,K1 100043] (by kernel_rfl) (aC8 (nT h0) hs1 (nT h3) hs4 hs7 hs8 (zskfge l b) rT)⟩
     |false=>
      exact ⟨Out.ret,St.mk [Z1r6] [Z1r1 l,Z1r2 l],by have:=addF_len l a;have:=addF_len l b;first|exact ⟨rfl,_,.inl ⟨l,by omega,rfl⟩⟩|exact ⟨rfl,_,.inr (.inl ⟨addF l a,by omega,rfl⟩)⟩|exact ⟨rfl,_,.inr (.inr ⟨addF l b,by omega,rfl⟩)⟩,gA 99996 [.is true,.call (.bool true) [100003,100005] [],.is true,.call (.bool false) [100003,100005] [],.call (.bool false) [100003,100005] []] [4] [K1 100003,K0 100005] (by kernel_rfl) (aC6 (nT h0) hs1 (nT h3) hs4 hs7 (zsq6af l))⟩
  |false=>
   rw [hb2] at hs1
   obtain ⟨r3,hs4⟩:=k176 rs l (by assumption)
   cases r3 with
   |true=>
    have hs5:=k210a l a (by assumption)
    exact ⟨Out.ret,St.mk [Z1r7] [(100003,.map (List.map AV.str (addF l a)) (pos (addF l a))),(100005,.var [.own 1 (List.map AV.str (addF l a)),.map 100003]),(100021,.row 1 [.str a])],by have:=addF_len l a;have:=addF_len l b;first|exact ⟨rfl,_,.inl ⟨l,by omega,rfl⟩⟩|exact ⟨rfl,_,.inr (.inl ⟨addF l a,by omega,rfl⟩)⟩|exact ⟨rfl,_,.inr (.inr ⟨addF l b,by omega,rfl⟩)⟩,gA 99996 [.is true,.call (.bool false) [100003,100005] [],.call (.bool true) [100003,100005] [],.call (.tup []) [100003,100005,100021] [(100003,.map (List.map AV.str (addF l a)) (pos (addF l a))),(100005,.var [.own 1 (List.map AV.str (addF l a)),.map 100003]),(100021,.row 1 [.str a])]] [4] [K1 100003,K0 100005,K1 100021] (by kernel_rfl) (aC6 (nT h0) hs1 hs4 hs5 (show noIdsL (List.map AV.str (addF l a))=true∧noIdsL (pos (addF l a))=true from by simp) rT)⟩
   |false=>
    rcases bft (decide (b=ByteArray.mk #[])) with h5|h5
    ·exact ⟨Out.ret,St.mk [Z1r6] [Z1r1 l,Z1r2 l],by have:=addF_len l a;have:=addF_len l b;first|exact ⟨rfl,_,.inl ⟨l,by omega,rfl⟩⟩|exact ⟨rfl,_,.inr (.inl ⟨addF l a,by omega,rfl⟩)⟩|exact ⟨rfl,_,.inr (.inr ⟨addF l b,by omega,rfl⟩)⟩,gA 99996 [.is true,.call (.bool false) [100003,100005] [],.call (.bool false) [100003,100005] [],.is false] [4] [K1 100003,K0 100005] (by kernel_rfl) (aC5 (nT h0) hs1 hs4 (nF h5) (zsq6af l))⟩
    ·have hs6:=k214 l b
     cases hb7:decide (b∈l) with
     |true=>
      rw [hb7] at hs6
      exact ⟨Out.ret,St.mk [Z1r6] [Z1r1 l,Z1r2 l],by have:=addF_len l a;have:=addF_len l b;first|exact ⟨rfl,_,.inl ⟨l,by omega,rfl⟩⟩|exact ⟨rfl,_,.inr (.inl ⟨addF l a,by omega,rfl⟩)⟩|exact ⟨rfl,_,.inr (.inr ⟨addF l b,by omega,rfl⟩)⟩,gA 99996 [.is true,.call (.bool false) [100003,100005] [],.call (.bool false) [100003,100005] [],.is true,.call (.bool true) [100003,100005] []] [4] [K1 100003,K0 100005] (by kernel_rfl) (aC6 (nT h0) hs1 hs4 (nT h5) hs6 (zsq6af l))⟩
     |false=>
      rw [hb7] at hs6
      obtain ⟨r8,hs9⟩:=k176 ls l (by assumption)
      cases r8 with
      |true=>
       have hs10:=k210b l b (by assumption)
       exact ⟨Out.ret,St.mk [Z1r7] [Z1r8 l b,Z1r9 l b,Z1r5 b],by have:=addF_len l a;have:=addF_len l b;first|exact ⟨rfl,_,.inl ⟨l,by omega,rfl⟩⟩|exact ⟨rfl,_,.inr (.inl ⟨addF l a,by omega,rfl⟩)⟩|exact ⟨rfl,_,.inr (.inr ⟨addF l b,by omega,rfl⟩)⟩,gA 99996 [.is true,.call (.bool false) [100003,100005] [],.call (.bool false) [100003,100005] [],.is true,.call (.bool false) [100003,100005] [],.call (.bool true) [100003,100005] [],.call (.tup []) [100003,100005,100043] [Z1r8 l b,Z1r9 l b,Z1r5 b]] [4] [K1 100003,K0 100005,K1 100043] (by kernel_rfl) (aC9 (nT h0) hs1 hs4 (nT h5) hs6 hs9 hs10 (zskfge l b) rT)⟩
      |false=>
       exact ⟨Out.ret,St.mk [Z1r6] [Z1r1 l,Z1r2 l],by have:=addF_len l a;have:=addF_len l b;first|exact ⟨rfl,_,.inl ⟨l,by omega,rfl⟩⟩|exact ⟨rfl,_,.inr (.inl ⟨addF l a,by omega,rfl⟩)⟩|exact ⟨rfl,_,.inr (.inr ⟨addF l b,by omega,rfl⟩)⟩,gA 99996 [.is true,.call (.bool false) [100003,100005] [],.call (.bool false) [100003,100005] [],.is true,.call (.bool false) [100003,100005] [],.call (.bool false) [100003,100005] []] [4] [K1 100003,K0 100005] (by kernel_rfl) (aC7 (nT h0) hs1 hs4 (nT h5) hs6 hs9 (zsq6af l))⟩
theorem k213 (l:List ByteArray) (q:Eqn) (hl:l.length<8796093022208) (hls:q.ls.length≤9223372036854775807) (hrs:q.rs.length≤9223372036854775807):∃(rb:Bool) (l':List ByteArray),Sp 213 [.elt 100005 0 0,q.av] (fp l) (.bool rb) (fp l')∧l'.length≤l.length+1:=by
 obtain ⟨e,t,⟨rfl,rb,h⟩,r⟩:=b213 l q.a q.b q.ls q.rs hl hls hrs
 have fin:∀(l':List ByteArray),l'.length≤l.length+1→RunsK Tryz.prog 49 [100003,100005] (bodyOf Tryz.f213) ⟨argEnv 0 [.elt 100005 0 0,q.av],fp l⟩ .ret ⟨[(4,.bool rb)],fp l'⟩→∃(rb:Bool) (l':List ByteArray),Sp 213 [.elt 100005 0 0,q.av] (fp l) (.bool rb) (fp l')∧l'.length≤l.length+1:=fun l' hl' h=>
  ⟨rb,l',Spec.gen (st':=⟨[(4,.bool rb)],fp l'⟩) (fn:=Tryz.f213) (c:=bodyOf Tryz.f213) (by kernel_rfl) (by kernel_rfl) rfl rfl rfl (obs_fp l) h (.inr rfl) (by kernel_rfl),hl'⟩
 have cut:∀(l':List ByteArray),[noIdsL (l'.map AV.str)=true∧noIdsL (pos l')=true]=[noIdsL (l'.map AV.str)=true∧noIdsL (pos l')=true]:=fun _=>rfl
 rcases h with ⟨l',hl',rfl⟩|⟨l',hl',rfl⟩|⟨l',hl',rfl⟩
 ·exact fin l' hl' r.k
 ·exact fin l' hl' (r.k.keepR [4] [K1 100003,K0 100005] (cs:=[noIdsL (l'.map AV.str)=true∧noIdsL (pos l')=true]) rfl ⟨⟨noIdsL_strs l',noIdsL_pos l'⟩,trivial⟩)
 ·exact fin l' hl' (r.k.keepR [4] [K1 100003,K0 100005] (cs:=[noIdsL (l'.map AV.str)=true∧noIdsL (pos l')=true]) rfl ⟨⟨noIdsL_strs l',noIdsL_pos l'⟩,trivial⟩)
section
variable (qs lf:List Eqn) (l l2:List ByteArray) (x:Eqn) (i:Nat)
@[simp] theorem nI_cons (x:AV) (r:List AV):noIdsL (x::r)=(noIds x&&noIdsL r):=rfl
@[simp] theorem nI_nil:noIdsL []=true:=rfl
@[simp] theorem nI_agg (cs:List AV):noIds (.agg cs)=noIdsL cs:=rfl
@[simp] theorem nI_str (s:ByteArray):noIds (.str s)=true:=rfl
@[simp] theorem nI_int (k:IntKind) (n:Int):noIds (.int k n)=true:=rfl
@[simp] theorem nI_bool (b:Bool):noIds (.bool b)=true:=rfl
@[simp] theorem nI_seq (es:List AV) (c:Bool):noIds (.seq es c)=true:=rfl
@[simp] theorem okE_eqn (q:Eqn):okE 4 q.av:=⟨rfl,by simp [Eqn.av,AV.cells,solid]⟩
@[simp] theorem noIdsL_eqns (l:List Eqn):noIdsL (l.map Eqn.av)=true:=noIdsL_of Eqn.av (fun _=>by simp [Eqn.av,noIds,noIdsL]) l
@[simp] theorem noIds_eqn (q:Eqn):noIds q.av=true:=by simp [Eqn.av,noIds,noIdsL]
@[simp] theorem noIdsL_eqn1 (q:Eqn):noIdsL [q.av]=true:=by simp [noIdsL]
theorem zsf0j1 (qs:List Eqn):noIdsL (qs.map Eqn.av)=true:=by simp
abbrev Z1s0:Nat×AV:=(0,.elt 100000 0 0)
abbrev Z1s1:Nat×AV:=(5,.int .i64 ((qs.map Eqn.av).length:Nat))
abbrev Z1s2:Nat×AV:=(18,.int .i64 ((qs.map Eqn.av).length:Nat))
abbrev Z1s3:Nat×AV:=(19,.int .i64 (i:Int))
abbrev Z1s4:Nat×Ob:=(100000,.var [.row 60500 0 (qs.map Eqn.av).length])
abbrev Z1s5:Nat×Ob:=(100003,.map (l.map AV.str) (pos l))
abbrev Z1s6:Nat×Ob:=(100005,.var [.own 1 (l.map AV.str),.map 100003])
abbrev Z1s7:Nat×Ob:=(60500,.row 4 (qs.map Eqn.av))
abbrev Z1s8:Nat×AV:=(19,.int .i64 ((i+1:Nat):Int))
abbrev Z1s9:Nat×Ob:=(100003,.map (l2.map AV.str) (pos l2))
abbrev Z1sa:Nat×Ob:=(100005,.var [.own 1 (l2.map AV.str),.map 100003])
abbrev Z1sc:St:=⟨[Z1s0,(1,.clo 213 [.elt 100005 0 0] []),Z1s1 qs,(6,.nils),(17,.row 60500 0 (qs.map Eqn.av).length),Z1s2 qs,Z1s3 i],[Z1s4 qs,Z1s5 l,Z1s6 l,Z1s7 qs]⟩
theorem t212nt (hx:(qs.map Eqn.av)[0+Int.toNat (i:Int)]? =some x.av) (hi:i<qs.length) (hq:qs.length<1000000) (k213:Sp 213 [.elt 100005 0 0,x.av] (fp l) (.bool true) (fp l2)):EN 40 (loopOf Tryz.f212 0) (Z1sc qs l i) ⟨[Z1s0,(1,.clo 213 [.elt 100005 0 0] []),Z1s1 qs,(6,.nils),(17,.row 60500 0 (qs.map Eqn.av).length),Z1s2 qs,Z1s8 i],[Z1s4 qs,Z1s9 l2,Z1sa l2,Z1s7 qs]⟩:=by
 have hs0:=k213
 exact gE ⟨rfl,rfl⟩ 60000 [.is true,.elt (Eqn.av x),.call (.bool true) [100003,100005] [Z1s9 l2,Z1sa l2]] [0,1,5,6,17,18,19] [K0 100000,K1 100003,K0 100005,K1 60500] (aC7 (d1 Eqn.av qs i (by omega)) (show 0≤(i:Int)∧(i:Int)<(↑(qs.map Eqn.av).length:Int) from by simp;omega) hx hs0 (w1 i (by omega)) (zski2r l2) (zsf0j1 qs))
theorem t212nf (hx:(qs.map Eqn.av)[0+Int.toNat (i:Int)]? =some x.av) (hi:i<qs.length) (hq:qs.length<1000000) (k213:Sp 213 [.elt 100005 0 0,x.av] (fp l) (.bool false) (fp l2)):EN 40 (loopOf Tryz.f212 0) (Z1sc qs l i) ⟨[Z1s0,(1,.clo 213 [.elt 100005 0 0] []),Z1s1 qs,(6,.row 60031 0 1),(17,.row 60500 0 (qs.map Eqn.av).length),Z1s2 qs,Z1s8 i],[Z1s4 qs,Z1s9 l2,Z1sa l2,Z1s7 qs,(60031,.row 4 [x.av])]⟩:=by
 have hs0:=k213
 exact gE ⟨rfl,rfl⟩ 60000 [.is true,.elt (Eqn.av x),.call (.bool false) [100003,100005] [Z1s9 l2,Z1sa l2],.is true] [0,1,5,6,17,18,19] [K0 100000,K1 100003,K0 100005,K1 60500,(60030,.keep 60031 true)] (aC9 (d1 Eqn.av qs i (by omega)) (show 0≤(i:Int)∧(i:Int)<(↑(qs.map Eqn.av).length:Int) from by simp;omega) hx hs0 (show 1≤List.length [AV.agg [AV.str x.1,AV.str x.2,AV.seq (List.map AV.str x.3) false,AV.seq (List.map AV.str x.4) false]]∧[AV.agg [AV.str x.1,AV.str x.2,AV.seq (List.map AV.str x.3) false,AV.seq (List.map AV.str x.4) false]]≠[]∧(∀(e:AV),e∈[AV.agg [AV.str x.1,AV.str x.2,AV.seq (List.map AV.str x.3) false,AV.seq (List.map AV.str x.4) false]]→okE 4 e)∧(∀(e:AV),e∈[]→okE 4 e)∧(↑(0+List.length [AV.agg [AV.str x.1,AV.str x.2,AV.seq (List.map AV.str x.3) false,AV.seq (List.map AV.str x.4) false]]):Int)*80≤140737488355328∧0+List.length [AV.agg [AV.str x.1,AV.str x.2,AV.seq (List.map AV.str x.3) false,AV.seq (List.map AV.str x.4) false]]≤9223372036854775807 from by simp) (w1 i (by omega)) (zski2r l2) (zsf0j1 qs) rT)
theorem zsp8wo (qs:List Eqn):decide ((↑qs.length:Int)<(↑(qs.map Eqn.av).length:Int))=false:=by simp
theorem e212n:En 40 (loopOf Tryz.f212 0) ⟨[Z1s0,(1,.clo 213 [.elt 100005 0 0] []),Z1s1 qs,(6,.nils),(17,.row 60500 0 (qs.map Eqn.av).length),Z1s2 qs,(19,.int .i64 ((qs.length:Nat):Int))],[Z1s4 qs,Z1s5 l,Z1s6 l,Z1s7 qs]⟩ (fun e t=>e= .exit 0∧t=⟨[Z1s0,Z1s1 qs,(6,.nils)],[Z1s4 qs,Z1s5 l,Z1s6 l,Z1s7 qs]⟩):=by
 exact gE ⟨rfl,rfl⟩ 60000 [.is false] [0,5,6] [K0 100000,K1 100003,K0 100005,K1 60500] (aC3 (zsp8wo qs) (zsq6af l) (zsf0j1 qs))
theorem zs7nzn (lf:List Eqn):noIdsL (lf.map Eqn.av)=true:=by simp
abbrev Z1sb:Nat×Ob:=(60031,.row 4 (lf.map Eqn.av))
abbrev Z1sd:St:=⟨[Z1s0,(1,.clo 213 [.elt 100005 0 0] []),Z1s1 qs,(6,.row 60031 0 (lf.map Eqn.av).length),(17,.row 60500 0 (qs.map Eqn.av).length),Z1s2 qs,Z1s3 i],[Z1s4 qs,Z1s5 l,Z1s6 l,Z1s7 qs,Z1sb lf]⟩
theorem t212rt (hlf:lf.length<1000000) (l l2:List ByteArray) (x:Eqn) (i:Nat) (hx:(qs.map Eqn.av)[0+Int.toNat (i:Int)]? =some x.av) (hi:i<qs.length) (hq:qs.length<1000000) (k213:Sp 213 [.elt 100005 0 0,x.av] (fp l) (.bool true) (fp l2)):EN 40 (loopOf Tryz.f212 0) (Z1sd qs lf l i) ⟨[Z1s0,(1,.clo 213 [.elt 100005 0 0] []),Z1s1 qs,(6,.row 60031 0 (lf.map Eqn.av).length),(17,.row 60500 0 (qs.map Eqn.av).length),Z1s2 qs,Z1s8 i],[Z1s4 qs,Z1s9 l2,Z1sa l2,Z1s7 qs,Z1sb lf]⟩:=by
 have hs0:=k213
 exact gE ⟨rfl,rfl⟩ 60000 [.is true,.elt (Eqn.av x),.call (.bool true) [100003,100005] [Z1s9 l2,Z1sa l2]] [0,1,5,6,17,18,19] [K0 100000,K1 100003,K0 100005,K1 60500,K1 60031] (aC8 (d1 Eqn.av qs i (by omega)) (show 0≤(i:Int)∧(i:Int)<(↑(qs.map Eqn.av).length:Int) from by simp;omega) hx hs0 (w1 i (by omega)) (zski2r l2) (zsf0j1 qs) (zs7nzn lf))
theorem t212rf (hlf:lf.length<1000000) (l l2:List ByteArray) (x:Eqn) (i:Nat) (hx:(qs.map Eqn.av)[0+Int.toNat (i:Int)]? =some x.av) (hi:i<qs.length) (hq:qs.length<1000000) (k213:Sp 213 [.elt 100005 0 0,x.av] (fp l) (.bool false) (fp l2)):EN 40 (loopOf Tryz.f212 0) (Z1sd qs lf l i) ⟨[Z1s0,(1,.clo 213 [.elt 100005 0 0] []),Z1s1 qs,(6,.row 60031 0 ((lf.map Eqn.av).length+1)),(17,.row 60500 0 (qs.map Eqn.av).length),Z1s2 qs,Z1s8 i],[Z1s4 qs,Z1s9 l2,Z1sa l2,Z1s7 qs,(60031,.row 4 (lf.map Eqn.av++[x.av]))]⟩:=by
 have hs0:=k213
 exact gE ⟨rfl,rfl⟩ 60000 [.is true,.elt (Eqn.av x),.call (.bool false) [100003,100005] [Z1s9 l2,Z1sa l2],.is true] [0,1,5,6,17,18,19] [K0 100000,K1 100003,K0 100005,K1 60500,(60030,.keep 60031 true)] (aC9 (d1 Eqn.av qs i (by omega)) (show 0≤(i:Int)∧(i:Int)<(↑(qs.map Eqn.av).length:Int) from by simp;omega) hx hs0 (show (1:Nat)≤List.length [AV.agg [AV.str x.1,AV.str x.2,AV.seq (List.map AV.str x.3) false,AV.seq (List.map AV.str x.4) false]]∧(0:Nat)=(0:Nat)∧List.length (lf.map Eqn.av)=List.length (lf.map Eqn.av)∧(∀(e:AV),e∈[AV.agg [AV.str x.1,AV.str x.2,AV.seq (List.map AV.str x.3) false,AV.seq (List.map AV.str x.4) false]]→okE (4:Nat) e)∧(∀(e:AV),e∈List.map Eqn.av lf→okE (4:Nat) e)∧(↑(List.length (lf.map Eqn.av)+List.length [AV.agg [AV.str x.1,AV.str x.2,AV.seq (List.map AV.str x.3) false,AV.seq (List.map AV.str x.4) false]]):Int)*(80:Int)≤(140737488355328:Int)∧List.length (lf.map Eqn.av)+List.length [AV.agg [AV.str x.1,AV.str x.2,AV.seq (List.map AV.str x.3) false,AV.seq (List.map AV.str x.4) false]]≤(9223372036854775807:Nat) from by simp;omega) (w1 i (by omega)) (zski2r l2) (zsf0j1 qs) (show noIdsL (List.map Eqn.av lf++[AV.agg [AV.str x.1,AV.str x.2,AV.seq (List.map AV.str x.3) false,AV.seq (List.map AV.str x.4) false]])=true from by simp))
theorem e212r:En 40 (loopOf Tryz.f212 0) ⟨[Z1s0,(1,.clo 213 [.elt 100005 0 0] []),Z1s1 qs,(6,.row 60031 0 (lf.map Eqn.av).length),(17,.row 60500 0 (qs.map Eqn.av).length),Z1s2 qs,(19,.int .i64 ((qs.length:Nat):Int))],[Z1s4 qs,Z1s5 l,Z1s6 l,Z1s7 qs,Z1sb lf]⟩ (fun e t=>e= .exit 0∧t=⟨[Z1s0,Z1s1 qs,(6,.row 60031 0 (lf.map Eqn.av).length)],[Z1s4 qs,Z1s5 l,Z1s6 l,Z1s7 qs,Z1sb lf]⟩):=by
 exact gE ⟨rfl,rfl⟩ 60000 [.is false] [0,5,6] [K0 100000,K1 100003,K0 100005,K1 60500,K1 60031] (aC4 (zsp8wo qs) (zsq6af l) (zsf0j1 qs) (zs7nzn lf))
def lvA:List Eqn→AV
 |[]=> .nils
 |x::r=> .row 60031 0 ((x::r).map Eqn.av).length
def loA:List Eqn→List (Nat×Ob)
 |[]=>[]
 |x::r=>[(60031,.row 4 ((x::r).map Eqn.av))]
def st212 (qs:List Eqn) (i:Int) (l:List ByteArray) (lf:List Eqn):St:=
 ⟨[Z1s0,(1,.clo 213 [.elt 100005 0 0] []),Z1s1 qs,(6,lvA lf),(17,.row 60500 0 (qs.map Eqn.av).length),Z1s2 qs,(19,.int .i64 i)],[Z1s4 qs,Z1s5 l,Z1s6 l,Z1s7 qs]++loA lf⟩
def sE212 (qs:List Eqn) (l:List ByteArray) (lf:List Eqn):St:=
 ⟨[Z1s0,Z1s1 qs,(6,lvA lf)],[Z1s4 qs,Z1s5 l,Z1s6 l,Z1s7 qs]++loA lf⟩
theorem turn212 (rb:Bool) (hx:qs[i]? =some x) (hq:qs.length<1000000) (hlf:lf.length<1000000) (h:Sp 213 [.elt 100005 0 0,x.av] (fp l) (.bool rb) (fp l2)):
  Rz 40 (loopOf Tryz.f212 0) (st212 qs (i:Int) l lf) .normal (st212 qs ((i+1:Nat):Int) l2 (if rb then lf else lf++[x])):=by
 have hi:i<qs.length:=(List.getElem?_eq_some_iff.1 hx).1
 have hx':(qs.map Eqn.av)[0+Int.toNat (i:Int)]? =some x.av:=by rw [Nat.zero_add];exact get_of Eqn.av hx
 cases lf with
 |nil=>
  cases rb with
  |true=>
   obtain ⟨e,t,⟨rfl,rfl⟩,r⟩:=t212nt qs l l2 x i hx' hi hq h
   exact r
  |false=>
   obtain ⟨e,t,⟨rfl,rfl⟩,r⟩:=t212nf qs l l2 x i hx' hi hq h
   exact r
 |cons y lf=>
  cases rb with
  |true=>
   obtain ⟨e,t,⟨rfl,rfl⟩,r⟩:=t212rt qs (y::lf) hlf l l2 x i hx' hi hq h
   exact r
  |false=>
   obtain ⟨e,t,⟨rfl,rfl⟩,r⟩:=t212rf qs (y::lf) hlf l l2 x i hx' hi hq h
   have e1:(y::lf)++[x]=y::(lf++[x]):=rfl
   show Runs _ _ _ _ _ (st212 qs _ l2 ((y::lf)++[x]))
   rw [e1]
   have e2:(((y::lf).map Eqn.av).length+1:Nat)=((y::(lf++[x])).map Eqn.av).length:=by simp
   have e3:(y::lf).map Eqn.av++[x.av]=(y::(lf++[x])).map Eqn.av:=by simp
   rw [e2,e3] at r
   exact r
theorem l212_0 (hq:qs.length<1000000) (hl:l.length<1000000000) (hs:∀q,q∈qs→q.ls.length≤9223372036854775807∧q.rs.length≤9223372036854775807):
  ∃(l2:List ByteArray) (lf:List Eqn),Lo 40 (loopOf Tryz.f212 0) (st212 qs 0 l []) (.exit 0) (sE212 qs l2 lf)∧l2.length≤l.length+qs.length∧lf.length≤qs.length∧∀q,q∈lf→q∈qs:=by
 refine (fun ⟨⟨l2,lf⟩,⟨h1,h2,h3⟩,h⟩=>⟨l2,lf,h,h1,h2,h3⟩) (inv_loop0 (P:=Tryz.prog) (n:=40) (c:=loopOf Tryz.f212 0) (N:=qs.length) (k:=0) (γ:=List ByteArray×List Eqn) (fun i g=>st212 qs (i:Int) g.1 g.2) (fun g=>sE212 qs g.1 g.2)
  (fun i g=>g.1.length≤l.length+i∧g.2.length≤i∧∀q,q∈g.2→q∈qs) (fun i g hi hg=> ?_) (fun g hg=> ?_) (l,[]) ⟨by simp,by simp,by simp⟩)
 ·obtain ⟨g1,g2⟩:=g
  obtain ⟨a1,a2,a3⟩:=hg
  simp only at a1 a2 a3
  have hx:qs[i]? =some qs[i]:=List.getElem?_eq_getElem hi
  have hm:qs[i]∈qs:=List.getElem_mem hi
  obtain ⟨rb,l3,sp,hl3⟩:=k213 g1 qs[i] (by omega) (hs _ hm).1 (hs _ hm).2
  refine ⟨_,_,⟨rfl,(l3,if rb then g2 else g2++[qs[i]]),⟨by simp only;omega,?_,?_⟩,rfl⟩,turn212 qs g2 g1 l3 qs[i] i rb hx hq (by omega) sp⟩
  ·cases rb<;>simp<;>omega
  ·intro q hq'
   cases rb with
   |true=>exact a3 q hq'
   |false=>
    simp only [Bool.false_eq_true,if_false,List.mem_append,List.mem_singleton] at hq'
    rcases hq' with h|h
    ·exact a3 q h
    ·rw [h];exact hm
 ·obtain ⟨g1,g2⟩:=g
  cases g2 with
  |nil=>exact e212n qs g1
  |cons y r=>exact e212r qs (y::r) g1
end
section
variable (qs:List Eqn) (l:List ByteArray)
abbrev Z1t0:Nat×AV:=(0,.elt 100000 0 0)
abbrev Z1t1:Nat×AV:=(5,.int .i64 ((qs.map Eqn.av).length:Nat))
abbrev Z1t2:Nat×Ob:=(100000,.var [.row 60500 0 (qs.map Eqn.av).length])
abbrev Z1t3:Nat×Ob:=(100003,.map (l.map AV.str) (pos l))
abbrev Z1t4:Nat×Ob:=(100005,.var [.own 1 (l.map AV.str),.map 100003])
abbrev Z1t5:Nat×Ob:=(60500,.row 4 (qs.map Eqn.av))
abbrev Z1t6:Nat×AV:=(18,.int .i64 ((qs.map Eqn.av).length:Nat))
abbrev Z1t7:Nat×AV:=(19,.int .i64 0)
abbrev Z1ti:St:=⟨[Z1t0,(1,.clo 213 [.elt 100005 0 0] []),Z1t1 qs,(6,.nils),(17,.row 60500 0 (qs.map Eqn.av).length),Z1t6 qs,Z1t7],[Z1t2 qs,Z1t3 l,Z1t4 l,Z1t5 qs]⟩
theorem w212o:EN 40 (regOf Tryz.f212 14) ⟨[Z1t0,(1,.clo 213 [.elt 100005 0 0] []),Z1t1 qs,(6,.nils)],[Z1t2 qs,Z1t3 l,Z1t4 l,Z1t5 qs]⟩ (Z1ti qs l):=by
 exact gE ⟨rfl,rfl⟩ 60000 [] [0,1,5,6,17,18,19] [K0 100000,K1 100003,K0 100005,K1 60500] (aC2 (zsq6af l) (zsf0j1 qs))
abbrev Z1t8:Nat×AV:=(5,.int .i64 0)
abbrev Z1t9:Nat×Ob:=(100000,.var [.own 4 (List.map Eqn.av [])])
abbrev Z1tj:St:=⟨[Z1t0,Z1t8,(6,.nils),(18,.int .i64 0),Z1t7],[Z1t9,Z1t3 l,Z1t4 l]⟩
abbrev Z1tk:St:=⟨[Z1t0,Z1t8,(6,.nils)],[Z1t9,Z1t3 l,Z1t4 l]⟩
theorem w212z:En 40 (loopOf Tryz.f212 0) (Z1tj l) (fun e t=>e= .exit 0∧t=(Z1tk l)):=by
 exact gE ⟨rfl,rfl⟩ 60000 [.is false] [0,5,6] [K0 100000,K1 100003,K0 100005] (aC2 rF (zsq6af l))
abbrev Z1ta:Nat×Ob:=(100000,.var [.nils])
theorem b212z (l212_0q:Lo 40 (loopOf Tryz.f212 0) (Z1tj l) (.exit 0) (Z1tk l)):En 40 (bodyOf Tryz.f212) ⟨[Z1t0,(1,.clo 213 [.elt 100005 0 0] [])],[Z1t9,Z1t3 l,Z1t4 l]⟩ (fun e t=>e= .ret∧t=⟨[(4,.bool false)],[Z1ta,Z1t3 l,Z1t4 l]⟩):=by
 have hl0:=l212_0q
 exact gE ⟨rfl,rfl⟩ 60000 [.cut [0,5,6,18,19] [K1 100000,K1 100003,K0 100005],.sum (.exit 0) [Z1t0,Z1t8,(6,.nils)] [Z1t9,Z1t3 l,Z1t4 l],.is false] [4] [K0 100000,K1 100003,K0 100005] (aC5 rT (zsq6af l) hl0 rF (zsq6af l))
abbrev Z1tb:Nat×Ob:=(100000,.var [.own 4 (qs.map Eqn.av)])
abbrev Z1tc (l2:List ByteArray):Nat×Ob:=(100003,.map (l2.map AV.str) (pos l2))
abbrev Z1td (l2:List ByteArray):Nat×Ob:=(100005,.var [.own 1 (l2.map AV.str),.map 100003])
abbrev Z1te:Nat×AV:=(5,.int .i64 (↑(qs.map Eqn.av).length:Int))
abbrev Z1tf:Nat×AV:=(18,.int .i64 (↑(qs.map Eqn.av).length:Int))
abbrev Z1tl:St:=⟨[Z1t0,(1,.clo 213 [.elt 100005 0 0] []),Z1t1 qs,(6,.nils)],[Z1tb qs,Z1t3 l,Z1t4 l]⟩
abbrev Z1tm:St:=⟨[Z1t0,(1,.clo 213 [.elt 100005 0 0] [])],[Z1tb qs,Z1t3 l,Z1t4 l]⟩
theorem b212n (l2:List ByteArray) (pr212_14p:Rz 40 (regOf Tryz.f212 14) (Z1tl qs l) .normal (Z1ti qs l)) (l212_0q:Lo 40 (loopOf Tryz.f212 0) (Z1ti qs l) (.exit 0) ⟨[Z1t0,Z1t1 qs,(6,.nils)],[Z1t2 qs,Z1tc l2,Z1td l2,Z1t5 qs]⟩):En 40 (bodyOf Tryz.f212) (Z1tm qs l) (fun e t=>e= .ret∧∃rb:Bool,t=⟨[(4,.bool rb)],[Z1ta,Z1tc l2,Z1td l2]⟩∧(rb=true→0<qs.length)):=by
 have hl0:=pr212_14p
 have hl1:=l212_0q
 rcases bft (decide ((↑(List.length ([]:List AV)):Int)<(↑(List.length (List.map Eqn.av qs)):Int))) with h2|h2
 ·exact ⟨Out.ret,St.mk [(4,.bool true)] [Z1ta,Z1tc l2,Z1td l2],⟨rfl,_,rfl,by first|(intro h;cases h;done)|(intro _;simp_all;omega)|(intro _;simp_all;done)⟩,gA 60000 [.cut [0,1,5,6] [K1 100000,K1 100003,K0 100005],.tell 14 .normal [Z1t0,(1,.clo 213 [.elt 100005 0 0] []),Z1te qs,(6,.nils),(17,.row 60500 0 (qs.map Eqn.av).length),Z1tf qs,Z1t7] [Z1t2 qs,Z1t3 l,Z1t4 l,Z1t5 qs],.cut [0,1,5,6,17,18,19] [K0 100000,K1 100003,K0 100005,K1 60500],.sum (.exit 0) [Z1t0,Z1te qs,(6,.nils)] [Z1t2 qs,Z1tc l2,Z1td l2,Z1t5 qs],.is true] [4] [K0 100000,K1 100003,K0 100005] (by kernel_rfl) (aC8 rT (zsq6af l) hl0 (zsq6af l) (zsf0j1 qs) hl1 h2 (zski2r l2))⟩
 ·exact ⟨Out.ret,St.mk [(4,.bool false)] [Z1ta,Z1tc l2,Z1td l2],⟨rfl,_,rfl,by first|(intro h;cases h;done)|(intro _;simp_all;omega)|(intro _;simp_all;done)⟩,gA 60000 [.cut [0,1,5,6] [K1 100000,K1 100003,K0 100005],.tell 14 .normal [Z1t0,(1,.clo 213 [.elt 100005 0 0] []),Z1te qs,(6,.nils),(17,.row 60500 0 (qs.map Eqn.av).length),Z1tf qs,Z1t7] [Z1t2 qs,Z1t3 l,Z1t4 l,Z1t5 qs],.cut [0,1,5,6,17,18,19] [K0 100000,K1 100003,K0 100005,K1 60500],.sum (.exit 0) [Z1t0,Z1te qs,(6,.nils)] [Z1t2 qs,Z1tc l2,Z1td l2,Z1t5 qs],.is false] [4] [K0 100000,K1 100003,K0 100005] (by kernel_rfl) (aC8 rT (zsq6af l) hl0 (zsq6af l) (zsf0j1 qs) hl1 h2 (zski2r l2))⟩
abbrev Z1tg (lf:List Eqn):Nat×Ob:=(60031,.row 4 (lf.map Eqn.av))
abbrev Z1th (lf:List Eqn):Nat×Ob:=(100000,.var [.row 60031 0 (lf.map Eqn.av).length])
theorem b212r (lf:List Eqn) (l l2:List ByteArray) (pr212_14p:Rz 40 (regOf Tryz.f212 14) (Z1tl qs l) .normal (Z1ti qs l)) (l212_0q:Lo 40 (loopOf Tryz.f212 0) (Z1ti qs l) (.exit 0) ⟨[Z1t0,Z1t1 qs,(6,.row 60031 0 (lf.map Eqn.av).length)],[Z1t2 qs,Z1tc l2,Z1td l2,Z1t5 qs,Z1tg lf]⟩):En 40 (bodyOf Tryz.f212) (Z1tm qs l) (fun e t=>e= .ret∧∃rb:Bool,t=⟨[(4,.bool rb)],[Z1th lf,Z1tc l2,Z1td l2,Z1tg lf]⟩∧(rb=true→lf.length<qs.length)):=by
 have hl0:=pr212_14p
 have hl1:=l212_0q
 rcases bft (decide ((↑(List.length (List.map Eqn.av lf)):Int)<(↑(List.length (List.map Eqn.av qs)):Int))) with h2|h2
 ·exact ⟨Out.ret,St.mk [(4,.bool true)] [Z1th lf,Z1tc l2,Z1td l2,Z1tg lf],⟨rfl,_,rfl,by first|(intro h;cases h;done)|(intro _;simp_all;omega)|(intro _;simp_all;done)⟩,gA 60000 [.cut [0,1,5,6] [K1 100000,K1 100003,K0 100005],.tell 14 .normal [Z1t0,(1,.clo 213 [.elt 100005 0 0] []),Z1te qs,(6,.nils),(17,.row 60500 0 (qs.map Eqn.av).length),Z1tf qs,Z1t7] [Z1t2 qs,Z1t3 l,Z1t4 l,Z1t5 qs],.cut [0,1,5,6,17,18,19] [K0 100000,K1 100003,K0 100005,K1 60500],.sum (.exit 0) [Z1t0,Z1te qs,(6,.row 60031 0 (lf.map Eqn.av).length)] [Z1t2 qs,Z1tc l2,Z1td l2,Z1t5 qs,Z1tg lf],.is true] [4] [K0 100000,K1 100003,K0 100005,K1 60031] (by kernel_rfl) (aC9 rT (zsq6af l) hl0 (zsq6af l) (zsf0j1 qs) hl1 h2 (zski2r l2) (zs7nzn lf))⟩
 ·exact ⟨Out.ret,St.mk [(4,.bool false)] [Z1th lf,Z1tc l2,Z1td l2,Z1tg lf],⟨rfl,_,rfl,by first|(intro h;cases h;done)|(intro _;simp_all;omega)|(intro _;simp_all;done)⟩,gA 60000 [.cut [0,1,5,6] [K1 100000,K1 100003,K0 100005],.tell 14 .normal [Z1t0,(1,.clo 213 [.elt 100005 0 0] []),Z1te qs,(6,.nils),(17,.row 60500 0 (qs.map Eqn.av).length),Z1tf qs,Z1t7] [Z1t2 qs,Z1t3 l,Z1t4 l,Z1t5 qs],.cut [0,1,5,6,17,18,19] [K0 100000,K1 100003,K0 100005,K1 60500],.sum (.exit 0) [Z1t0,Z1te qs,(6,.row 60031 0 (lf.map Eqn.av).length)] [Z1t2 qs,Z1tc l2,Z1td l2,Z1t5 qs,Z1tg lf],.is false] [4] [K0 100000,K1 100003,K0 100005,K1 60031] (by kernel_rfl) (aC9 rT (zsq6af l) hl0 (zsq6af l) (zsf0j1 qs) hl1 h2 (zski2r l2) (zs7nzn lf))⟩
def rp (l:List ByteArray) (qs:List Eqn):List (Nat×Ob):=[Z1tb qs,Z1t3 l,Z1t4 l]
theorem obs_rp (qs:List Eqn):∀id o,(id,o)∈rp l qs→renOb (idT (rp l qs)) o=o:=by
 intro id o hm
 simp only [rp,List.mem_cons,Prod.mk.injEq,List.not_mem_nil,or_false] at hm
 rcases hm with ⟨rfl,rfl⟩|⟨rfl,rfl⟩|⟨rfl,rfl⟩
 ·rfl
 ·simp only [renOb,renL_noIds _ _ (noIdsL_strs l),renL_noIds _ _ (noIdsL_pos l)]
 ·rfl
theorem k212 (qs:List Eqn) (hq:qs.length<1000000) (hl:l.length<1000000000) (hs:∀q,q∈qs→q.ls.length≤9223372036854775807∧q.rs.length≤9223372036854775807):
  ∃(rb:Bool) (l2:List ByteArray) (lf:List Eqn),Sp 212 [.elt 100000 0 0,.clo 213 [.elt 100005 0 0] []] (rp l qs) (.bool rb) (rp l2 lf)∧(rb=true→lf.length<qs.length)∧l2.length≤l.length+qs.length∧lf.length≤qs.length∧∀q,q∈lf→q∈qs:=by
 have fin:∀(rb:Bool) (l2:List ByteArray) (lf:List Eqn),Rz 40 (bodyOf Tryz.f212) ⟨argEnv 0 [.elt 100000 0 0,.clo 213 [.elt 100005 0 0] []],rp l qs⟩ .ret ⟨[(4,.bool rb)],rp l2 lf⟩→Sp 212 [.elt 100000 0 0,.clo 213 [.elt 100005 0 0] []] (rp l qs) (.bool rb) (rp l2 lf):=fun rb l2 lf h=>
  sG Tryz.f212 (obs_rp l qs) h (.inr rfl)
 by_cases hn:qs=[]
 ·subst hn
  obtain ⟨e,t,⟨rfl,rfl⟩,h0⟩:=w212z l
  obtain ⟨e,t,⟨rfl,rfl⟩,h⟩:=b212z l (.leave h0 (by simp))
  have k:=h.post (le_closeNil (st:=⟨_,[Z1ta,Z1t3 l,Z1t4 l]⟩) 100000 0 4 rfl rfl)
  exact ⟨false,l,[],fin _ _ _ k,by simp,by simp,by simp,by simp⟩
 ·obtain ⟨e,t,⟨rfl,rfl⟩,h0⟩:=w212o qs l
  have h1:=h0.pre (le_open (st:=⟨_,rp l qs⟩) 100000 0 60500 (sz:=4) rfl rfl (by simpa using hn) rfl (by simp [mid]))
  obtain ⟨l2,lf,hL,b1,b2,b3⟩:=l212_0 qs l hq hl hs
  cases lf with
  |nil=>
   obtain ⟨e,t,⟨rfl,rb,rfl,hp⟩,h⟩:=b212n qs l l2 h1 hL
   have k:=h.post (le_closeNil (st:=⟨_,[Z1ta,Z1tc l2,Z1td l2]⟩) 100000 0 4 rfl rfl)
   exact ⟨rb,l2,[],fin _ _ _ k,hp,b1,by simp,by simp⟩
  |cons y r=>
   obtain ⟨e,t,⟨rfl,rb,rfl,hp⟩,h⟩:=b212r qs (y::r) l l2 h1 hL
   have ht:((y::r).map Eqn.av).take ((y::r).map Eqn.av).length=(y::r).map Eqn.av:=List.take_length
   have k:=h.post (le_close (st:=⟨_,[(100000,.var [.row 60031 0 ((y::r).map Eqn.av).length]),Z1tc l2,Z1td l2,(60031,.row 4 ((y::r).map Eqn.av))]⟩) 100000 0 60031 (o:= .var [.row 60031 0 ((y::r).map Eqn.av).length]) rfl rfl rfl (by simp) (Nat.le_refl _) (by rw [ht];exact noIdsL_eqns _) (by simp [mid]))
   rw [ht] at k
   have k2:=k.keepR [4] [K0 100000,K1 100003,K0 100005] (st':=⟨[(4,.bool rb)],rp l2 (y::r)⟩) (cs:=[noIdsL (l2.map AV.str)=true∧noIdsL (pos l2)=true]) rfl ⟨⟨noIdsL_strs l2,noIdsL_pos l2⟩,trivial⟩
   exact ⟨rb,l2,y::r,fin _ _ _ k2,hp,b1,b2,b3⟩
end
section
variable (bd:List Li) (l:List ByteArray) (qs:List Eqn)
abbrev Z1u0:Nat×AV:=(0,.seq (bd.map Li.av) false)
theorem w175a:EN 57 (partC 0 (bodyOf Tryz.f175)) ⟨[Z1u0 bd],[]⟩ ⟨[Z1u0 bd],[]⟩:=by
 exact ⟨Out.normal,St.mk [Z1u0 bd] [],⟨rfl,rfl⟩,gA 99996 [] [0] [] (by kernel_rfl) (aN)⟩
abbrev Z1u1:Nat×AV:=(3,.elt 100005 0 0)
abbrev Z1u2:Nat×Ob:=(100003,.map [] [])
theorem w175b:EN 57 (partC 1 (bodyOf Tryz.f175)) ⟨[Z1u0 bd],[]⟩ ⟨[Z1u0 bd,Z1u1],[Z1u2,(100005,.var [.nils,.map 100003])]⟩:=by
 exact gE ⟨rfl,rfl⟩ 99996 [] [0,3] [K1 100003,K0 100005] (aC1 rTT)
abbrev Z1u3:Nat×Ob:=(100005,.var [.own 1 [],.map 100003])
abbrev Z1u4:Nat×AV:=(4,.elt 100000 0 0)
theorem w175c:EN 57 (partC 2 (bodyOf Tryz.f175)) ⟨[Z1u0 bd,Z1u1],[Z1u2,Z1u3]⟩ ⟨[Z1u0 bd,Z1u1,Z1u4],[(100000,.var [.nils]),Z1u2,Z1u3]⟩:=by
 exact gE ⟨rfl,rfl⟩ 99996 [] [0,3,4] [K0 100000,K1 100003,K0 100005] (aC1 rTT)
theorem w175n (bd:List Li) (n i:Int) (x:Li) (l:List ByteArray) (h1:x.l.terms.length<1000) (h2:x.r.terms.length<1000):En 57 (regOf Tryz.f175 34) ⟨[(3,.elt 100005 0 0),(4,.elt 100000 0 0),(6,.elt 60006 0 0),(10,.seq (bd.map Li.av) false),(11,.int .i64 n),(12,.int .i64 i)],[(100000,.var [.nils]),(100003,.map (List.map .str l) (pos l)),(100005,.var [.own 1 (List.map .str l),.map 100003]),(60006,.var x.cells)]⟩ (fun e t=>e= .normal∧∃q:Eqn,t=⟨[(3,.elt 100005 0 0),(4,.elt 100000 0 0),(10,.seq (bd.map Li.av) false),(11,.int .i64 n),(12,.int .i64 i)],[(100000,.var [.row 60050 0 1]),(100003,.map (List.map .str l) (pos l)),(100005,.var [.own 1 (List.map .str l),.map 100003]),(60050,.row 4 [q.av])]⟩∧q.ls.length<1000∧q.rs.length<1000):=by
 obtain ⟨r0,hs1⟩:=k211 (Li.l x)
 obtain ⟨r2,hs3⟩:=k211 (Li.r x)
 have hs4:=k187 (Li.l x) (by omega)
 have hs5:=k187 (Li.r x) (by omega)
 exact ⟨Out.normal,St.mk [(3,AV.elt 100005 0 0),(4,AV.elt 100000 0 0),(10,AV.seq (List.map Li.av bd) false),(11,AV.int .i64 n),(12,AV.int .i64 i)] [(100000,Ob.var [AV.row 60050 0 (0+List.length [AV.agg [AV.str r0,AV.str r2,AV.seq (List.map AV.str (varsOf (Ex.terms (Li.l x)))) false,AV.seq (List.map AV.str (varsOf (Ex.terms (Li.r x)))) false]])]),(100003,Ob.map (List.map AV.str l) (pos l)),(100005,Ob.var [AV.own 1 (List.map AV.str l),AV.map 100003]),(60050,Ob.row 4 [AV.agg [AV.str r0,AV.str r2,AV.seq (List.map AV.str (varsOf (Ex.terms (Li.l x)))) false,AV.seq (List.map AV.str (varsOf (Ex.terms (Li.r x)))) false]])],⟨rfl,⟨_,_,_,_⟩,rfl,by have:=addT_len x.l.terms [];simp only [varsOf,addT,List.length_nil] at*;omega,by have:=addT_len x.r.terms [];simp only [varsOf,addT,List.length_nil] at*;omega⟩,gA 60000 [.call (.str r0) [] [],.call (.str r2) [] [],.call (.seq (List.map AV.str (varsOf (Ex.terms (Li.l x)))) false) [] [],.call (.seq (List.map AV.str (varsOf (Ex.terms (Li.r x)))) false) [] [],.is true] [3,4,10,11,12] [K0 100000,K1 100003,K0 100005,K1 60050] (by kernel_rfl) (aC7 hs1 hs3 hs4 hs5 (show 1≤List.length [AV.agg [AV.str r0,AV.str r2,AV.seq (List.map AV.str (varsOf (Ex.terms (Li.l x)))) false,AV.seq (List.map AV.str (varsOf (Ex.terms (Li.r x)))) false]]∧[AV.agg [AV.str r0,AV.str r2,AV.seq (List.map AV.str (varsOf (Ex.terms (Li.l x)))) false,AV.seq (List.map AV.str (varsOf (Ex.terms (Li.r x)))) false]]≠[]∧(∀(e:AV),e∈[AV.agg [AV.str r0,AV.str r2,AV.seq (List.map AV.str (varsOf (Ex.terms (Li.l x)))) false,AV.seq (List.map AV.str (varsOf (Ex.terms (Li.r x)))) false]]→okE 4 e)∧(∀(e:AV),e∈[]→okE 4 e)∧(↑(0+List.length [AV.agg [AV.str r0,AV.str r2,AV.seq (List.map AV.str (varsOf (Ex.terms (Li.l x)))) false,AV.seq (List.map AV.str (varsOf (Ex.terms (Li.r x)))) false]]):Int)*80≤140737488355328∧0+List.length [AV.agg [AV.str r0,AV.str r2,AV.seq (List.map AV.str (varsOf (Ex.terms (Li.l x)))) false,AV.seq (List.map AV.str (varsOf (Ex.terms (Li.r x)))) false]]≤9223372036854775807 from by simp) (show noIdsL (l.map AV.str)=true∧noIdsL (pos l)=true from by simp) rT)⟩
theorem w175r (qs:List Eqn) (hq:qs.length<1000000) (bd:List Li) (n i:Int) (x:Li) (l:List ByteArray) (h1:x.l.terms.length<1000) (h2:x.r.terms.length<1000):En 57 (regOf Tryz.f175 34) ⟨[(3,.elt 100005 0 0),(4,.elt 100000 0 0),(6,.elt 60006 0 0),(10,.seq (bd.map Li.av) false),(11,.int .i64 n),(12,.int .i64 i)],[(100000,.var [.row 60500 0 (qs.map Eqn.av).length]),(100003,.map (List.map .str l) (pos l)),(100005,.var [.own 1 (List.map .str l),.map 100003]),(60006,.var x.cells),(60500,.row 4 (qs.map Eqn.av))]⟩ (fun e t=>e= .normal∧∃q:Eqn,t=⟨[(3,.elt 100005 0 0),(4,.elt 100000 0 0),(10,.seq (bd.map Li.av) false),(11,.int .i64 n),(12,.int .i64 i)],[(100000,.var [.row 60050 0 ((qs.map Eqn.av).length+1)]),(100003,.map (List.map .str l) (pos l)),(100005,.var [.own 1 (List.map .str l),.map 100003]),(60050,.row 4 (qs.map Eqn.av++[q.av]))]⟩∧q.ls.length<1000∧q.rs.length<1000):=by
 obtain ⟨r0,hs1⟩:=k211 (Li.l x)
 obtain ⟨r2,hs3⟩:=k211 (Li.r x)
 have hs4:=k187 (Li.l x) (by omega)
 have hs5:=k187 (Li.r x) (by omega)
 exact ⟨Out.normal,St.mk [(3,AV.elt 100005 0 0),(4,AV.elt 100000 0 0),(10,AV.seq (List.map Li.av bd) false),(11,AV.int .i64 n),(12,AV.int .i64 i)] [(100000,Ob.var [AV.row 60050 0 (List.length (List.map Eqn.av qs)+List.length [AV.agg [AV.str r0,AV.str r2,AV.seq (List.map AV.str (varsOf (Ex.terms (Li.l x)))) false,AV.seq (List.map AV.str (varsOf (Ex.terms (Li.r x)))) false]])]),(100003,Ob.map (List.map AV.str l) (pos l)),(100005,Ob.var [AV.own 1 (List.map AV.str l),AV.map 100003]),(60050,Ob.row 4 (List.map Eqn.av qs++[AV.agg [AV.str r0,AV.str r2,AV.seq (List.map AV.str (varsOf (Ex.terms (Li.l x)))) false,AV.seq (List.map AV.str (varsOf (Ex.terms (Li.r x)))) false]]))],⟨rfl,⟨_,_,_,_⟩,rfl,by have:=addT_len x.l.terms [];simp only [varsOf,addT,List.length_nil] at*;omega,by have:=addT_len x.r.terms [];simp only [varsOf,addT,List.length_nil] at*;omega⟩,gA 60000 [.call (.str r0) [] [],.call (.str r2) [] [],.call (.seq (List.map AV.str (varsOf (Ex.terms (Li.l x)))) false) [] [],.call (.seq (List.map AV.str (varsOf (Ex.terms (Li.r x)))) false) [] [],.is true] [3,4,10,11,12] [K0 100000,K1 100003,K0 100005,K1 60050] (by kernel_rfl) (aC7 hs1 hs3 hs4 hs5 (show (1:Nat)≤List.length [AV.agg [AV.str r0,AV.str r2,AV.seq (List.map AV.str (varsOf (Ex.terms (Li.l x)))) false,AV.seq (List.map AV.str (varsOf (Ex.terms (Li.r x)))) false]]∧(0:Nat)=(0:Nat)∧List.length (qs.map Eqn.av)=List.length (qs.map Eqn.av)∧(∀(e:AV),e∈[AV.agg [AV.str r0,AV.str r2,AV.seq (List.map AV.str (varsOf (Ex.terms (Li.l x)))) false,AV.seq (List.map AV.str (varsOf (Ex.terms (Li.r x)))) false]]→okE (4:Nat) e)∧(∀(e:AV),e∈List.map Eqn.av qs→okE (4:Nat) e)∧(↑(List.length (qs.map Eqn.av)+List.length [AV.agg [AV.str r0,AV.str r2,AV.seq (List.map AV.str (varsOf (Ex.terms (Li.l x)))) false,AV.seq (List.map AV.str (varsOf (Ex.terms (Li.r x)))) false]]):Int)*(80:Int)≤(140737488355328:Int)∧List.length (qs.map Eqn.av)+List.length [AV.agg [AV.str r0,AV.str r2,AV.seq (List.map AV.str (varsOf (Ex.terms (Li.l x)))) false,AV.seq (List.map AV.str (varsOf (Ex.terms (Li.r x)))) false]]≤(9223372036854775807:Nat) from by simp;omega) (show noIdsL (l.map AV.str)=true∧noIdsL (pos l)=true from by simp) (show noIdsL (List.map Eqn.av qs++[AV.agg [AV.str r0,AV.str r2,AV.seq (List.map AV.str (varsOf (Ex.terms (Li.l x)))) false,AV.seq (List.map AV.str (varsOf (Ex.terms (Li.r x)))) false]])=true from by simp))⟩
abbrev Z1u5:Nat×AV:=(10,.seq (bd.map Li.av) false)
abbrev Z1u6:Nat×Ob:=(100003,.map (l.map AV.str) (pos l))
abbrev Z1u7:Nat×Ob:=(100005,.var [.own 1 (l.map AV.str),.map 100003])
theorem pr175_34 (bd:List Li) (n i:Int) (x:Li) (l:List ByteArray) (h1:x.l.terms.length<1000) (h2:x.r.terms.length<1000) (hq:qs.length<1000000):∃q:Eqn,Rz 57 (regOf Tryz.f175 34) ⟨[Z1u1,Z1u4,(6,.elt 60006 0 0),Z1u5 bd,(11,.int .i64 n),(12,.int .i64 i)],rp l qs++[(60006,.var x.cells)]⟩ .normal ⟨[Z1u1,Z1u4,Z1u5 bd,(11,.int .i64 n),(12,.int .i64 i)],rp l (qs++[q])⟩∧q.ls.length<1000∧q.rs.length<1000:=by
 have cl:∀(es:List AV) (m:Nat) (st:St),m=es.length→0<m→noIdsL es=true→Rz 57 (regOf Tryz.f175 34) st .normal ⟨[Z1u1,Z1u4,Z1u5 bd,(11,.int .i64 n),(12,.int .i64 i)],[(100000,.var [.row 60050 0 m]),Z1u6 l,Z1u7 l,(60050,.row 4 es)]⟩→Rz 57 (regOf Tryz.f175 34) st .normal ⟨[Z1u1,Z1u4,Z1u5 bd,(11,.int .i64 n),(12,.int .i64 i)],[(100000,.var [.own 4 es]),Z1u6 l,Z1u7 l]⟩:=by
  intro es m st hm h0 h1 h
  subst hm
  have ht:es.take es.length=es:=List.take_length
  have k:=h.post (le_close (st:=⟨_,[(100000,.var [.row 60050 0 es.length]),Z1u6 l,Z1u7 l,(60050,.row 4 es)]⟩) 100000 0 60050 (o:= .var [.row 60050 0 es.length]) rfl rfl rfl h0 (Nat.le_refl _) (by rw [ht];exact h1) (by simp [mid]))
  rw [ht] at k
  exact k.keepR [3,4,10,11,12] [K0 100000,K1 100003,K0 100005] (cs:=[noIdsL (l.map AV.str)=true∧noIdsL (pos l)=true]) rfl ⟨⟨noIdsL_strs l,noIdsL_pos l⟩,trivial⟩
 by_cases hn:qs=[]
 ·subst hn
  obtain ⟨e,t,⟨rfl,q,rfl,hq1,hq2⟩,h⟩:=w175n bd n i x l h1 h2
  have k:=cl [q.av] 1 _ rfl (by simp) (by simp) h
  exact ⟨q,k.pre (le_openNil (st:=⟨_,rp l []++[(60006,.var x.cells)]⟩) 100000 0 (sz:=4) rfl rfl),hq1,hq2⟩
 ·obtain ⟨e,t,⟨rfl,q,rfl,hq1,hq2⟩,h⟩:=w175r qs hq bd n i x l h1 h2
  have k:=cl (qs.map Eqn.av++[q.av]) _ _ (by simp) (by simp) (by simp) h
  refine ⟨q,?_,hq1,hq2⟩
  have k2:=k.pre (le_open (st:=⟨_,rp l qs++[(60006,.var x.cells)]⟩) 100000 0 60500 (sz:=4) rfl rfl (by simpa using hn) rfl (by simp [mid]))
  have e1:qs.map Eqn.av++[q.av]=(qs++[q]).map Eqn.av:=by simp
  rw [e1] at k2
  exact k2
theorem lit_small {bd:List Li} {x:Li} {i:Nat} (hall:∀y,y∈bd→y.terms.length<1000) (h:bd[i]? =some x):x.ts.length<1000∧x.l.terms.length<1000∧x.r.terms.length<1000∧(varsOf x.ts).length<1000:=by
 have h1:=hall x (List.mem_of_getElem? h)
 have h2:=addT_len x.ts []
 simp only [Li.terms,List.length_append,varsOf,List.length_nil] at*
 refine ⟨?_,?_,?_,?_⟩<;>omega
abbrev Z1u8:Nat×AV:=(11,.int .i64 ((bd.map Li.av).length:Nat))
abbrev Z1u9:Nat×AV:=(11,.int .i64 (↑(bd.map Li.av).length:Int))
abbrev Z1ua (i:Nat):Nat×AV:=(12,.int .i64 ((i:Int)+1))
abbrev Z1ub:Nat×Ob:=(100000,.var [.own 4 (qs.map Eqn.av)])
theorem t175 (i:Nat) (hi:i<bd.length) (hbd:bd.length≤16) (hall:∀y,y∈bd→y.terms.length<1000) (hl:l.length<1000000) (hq:qs.length<1000):En 57 (loopOf Tryz.f175 0) ⟨[Z1u1,Z1u4,Z1u5 bd,Z1u8 bd,(12,.int .i64 (i:Int))],rp l qs⟩ (fun e t=>e= .normal∧∃(l2:List ByteArray) (qs2:List Eqn),t=⟨[Z1u1,Z1u4,Z1u5 bd,Z1u8 bd,(12,.int .i64 ((i+1:Nat):Int))],rp l2 qs2⟩∧l2.length≤l.length+1000∧(qs2=qs∨∃q:Eqn,qs2=qs++[q]∧q.ls.length<1000∧q.rs.length<1000)):=by
 obtain ⟨x0,hm0,hx0⟩:=elt_of Li.av (l:=bd) (n:=(↑i:Int)) (by omega) (by omega)
 rcases bft (decide (x0.1=1)) with h1|h1
 ·have hs2:=k28 x0.2 x0.3 (by obtain ⟨a,b,c,d⟩:=lit_small (by assumption) (by assumption);omega)
  obtain ⟨r3,⟨hs4,hs4'⟩⟩:=k210 (varsOf x0.3) (l) (by obtain ⟨a,b,c,d⟩:=lit_small (by assumption) (by assumption);omega) (by obtain ⟨a,b,c,d⟩:=lit_small (by assumption) (by assumption);omega)
  exact ⟨Out.normal,St.mk [Z1u1,Z1u4,Z1u5 bd,Z1u9 bd,Z1ua i] [Z1ub qs,(100003,.map (r3.map AV.str) (pos r3)),(100005,.var [.own 1 (r3.map AV.str),.map 100003])],by have hb:=hall _ (List.mem_of_getElem? hm0);have hc:=addT_len x0.ts [];first|exact ⟨rfl,_,_,rfl,by simp only [varsOf,addT,Li.terms,List.length_append,List.length_nil,List.length_map] at*;omega,.inl rfl⟩|exact ⟨rfl,_,_,rfl,by omega,.inr ⟨_,rfl,by assumption⟩⟩,gA 60000 [.is true,.elt (.agg x0.cells),.is true,.call (.seq (List.map AV.str (varsOf x0.3)) false) [] [],.call (.tup []) [100003,100005] [(100003,.map (r3.map AV.str) (pos r3)),(100005,.var [.own 1 (r3.map AV.str),.map 100003])]] [3,4,10,11,12] [K0 100000,K1 100003,K0 100005] (by kernel_rfl) (aC7 (d1 Li.av bd i (by omega)) hx0 h1 hs2 hs4 (w1 i (by omega)) (show noIdsL (r3.map AV.str)=true∧noIdsL (pos r3)=true from by simp))⟩
 ·rcases bft (decide (x0.1=3)) with h2|h2
  ·rcases bft (decide (x0.4=1)) with h3|h3
   ·obtain ⟨y4,⟨hl5,hl5'⟩⟩:=pr175_34 qs bd ((↑(List.length (List.map Li.av bd)):Int)) ((↑i:Int)) (x0) (l) (by obtain ⟨a,b,c,d⟩:=lit_small (by assumption) (by assumption);omega) (by obtain ⟨a,b,c,d⟩:=lit_small (by assumption) (by assumption);omega) (by omega)
    exact ⟨Out.normal,St.mk [Z1u1,Z1u4,Z1u5 bd,Z1u9 bd,Z1ua i] [(100000,.var [.own 4 (List.map Eqn.av (qs++[y4]))]),Z1u6 l,Z1u7 l],by have hb:=hall _ (List.mem_of_getElem? hm0);have hc:=addT_len x0.ts [];first|exact ⟨rfl,_,_,rfl,by simp only [varsOf,addT,Li.terms,List.length_append,List.length_nil,List.length_map] at*;omega,.inl rfl⟩|exact ⟨rfl,_,_,rfl,by omega,.inr ⟨_,rfl,by assumption⟩⟩,gA 60000 [.is true,.elt (.agg x0.cells),.is false,.is true,.is true,.cut [3,4,6,10,11,12] [K1 100000,K1 100003,K0 100005,K1 60006],.tell 34 .normal [Z1u1,Z1u4,Z1u5 bd,Z1u9 bd,(12,.int .i64 (i:Int))] (rp l (qs++[y4]))] [3,4,10,11,12] [K0 100000,K1 100003,K0 100005] (by kernel_rfl) (aC11 (d1 Li.av bd i (by omega)) hx0 h1 h2 h3 rT (zsq6af l) rT hl5 (w1 i (by omega)) (zsq6af l))⟩
   ·exact ⟨Out.normal,St.mk [Z1u1,Z1u4,Z1u5 bd,Z1u9 bd,Z1ua i] [Z1ub qs,Z1u6 l,Z1u7 l],by have hb:=hall _ (List.mem_of_getElem? hm0);have hc:=addT_len x0.ts [];first|exact ⟨rfl,_,_,rfl,by simp only [varsOf,addT,Li.terms,List.length_append,List.length_nil,List.length_map] at*;omega,.inl rfl⟩|exact ⟨rfl,_,_,rfl,by omega,.inr ⟨_,rfl,by assumption⟩⟩,gA 60000 [.is true,.elt (.agg x0.cells),.is false,.is true,.is false] [3,4,10,11,12] [K0 100000,K1 100003,K0 100005] (by kernel_rfl) (aC7 (d1 Li.av bd i (by omega)) hx0 h1 h2 h3 (w1 i (by omega)) (zsq6af l))⟩
  ·exact ⟨Out.normal,St.mk [Z1u1,Z1u4,Z1u5 bd,Z1u9 bd,Z1ua i] [Z1ub qs,Z1u6 l,Z1u7 l],by have hb:=hall _ (List.mem_of_getElem? hm0);have hc:=addT_len x0.ts [];first|exact ⟨rfl,_,_,rfl,by simp only [varsOf,addT,Li.terms,List.length_append,List.length_nil,List.length_map] at*;omega,.inl rfl⟩|exact ⟨rfl,_,_,rfl,by omega,.inr ⟨_,rfl,by assumption⟩⟩,gA 60000 [.is true,.elt (.agg x0.cells),.is false,.is false] [3,4,10,11,12] [K0 100000,K1 100003,K0 100005] (by kernel_rfl) (aC6 (d1 Li.av bd i (by omega)) hx0 h1 h2 (w1 i (by omega)) (zsq6af l))⟩
theorem e175:En 57 (loopOf Tryz.f175 0) ⟨[Z1u1,Z1u4,Z1u5 bd,Z1u8 bd,(12,.int .i64 ((bd.length:Nat):Int))],rp l qs⟩ (fun e t=>e= .exit 0∧t=⟨[Z1u1,Z1u4],rp l qs⟩):=by
 exact gE ⟨rfl,rfl⟩ 60000 [.is false] [3,4] [K0 100000,K1 100003,K0 100005] (aC2 (zsvzxo bd) (zsq6af l))
theorem t175t (l2:List ByteArray) (qs lf:List Eqn) (k212:Sp 212 [.elt 100000 0 0,.clo 213 [.elt 100005 0 0] []] (rp l qs) (.bool true) (rp l2 lf)):EN 57 (loopOf Tryz.f175 1) ⟨[Z1u1,Z1u4],rp l qs⟩ ⟨[Z1u1,Z1u4],rp l2 lf⟩:=by
 have hs0:=k212
 exact gE ⟨rfl,rfl⟩ 60000 [.call (.bool true) [100000,100003,100005] [(100000,.var [.own 4 (lf.map Eqn.av)]),(100003,.map (l2.map AV.str) (pos l2)),(100005,.var [.own 1 (l2.map AV.str),.map 100003])]] [3,4] [K0 100000,K1 100003,K0 100005] (aC2 hs0 (zski2r l2))
theorem t175f (l2:List ByteArray) (qs lf:List Eqn) (k212:Sp 212 [.elt 100000 0 0,.clo 213 [.elt 100005 0 0] []] (rp l qs) (.bool false) (rp l2 lf)):En 57 (loopOf Tryz.f175 1) ⟨[Z1u1,Z1u4],rp l qs⟩ (fun e t=>e= .exit 3∧t=⟨[Z1u1],rp l2 lf⟩):=by
 have hs0:=k212
 exact gE ⟨rfl,rfl⟩ 60000 [.call (.bool false) [100000,100003,100005] [(100000,.var [.own 4 (lf.map Eqn.av)]),(100003,.map (l2.map AV.str) (pos l2)),(100005,.var [.own 1 (l2.map AV.str),.map 100003])]] [3] [K0 100000,K1 100003,K0 100005] (aC2 hs0 (zski2r l2))
end
section
variable (p:ByteArray) (hd:List Ar) (bd:List Li)
def okQ (qs:List Eqn):Prop:=∀q,q∈qs→q.ls.length<1000∧q.rs.length<1000
abbrev Z1v0:Nat×AV:=(3,.elt 100005 0 0)
abbrev Z1v1:Nat×AV:=(4,.elt 100000 0 0)
abbrev Z1v2:Nat×AV:=(10,.seq (bd.map Li.av) false)
abbrev Z1v3:Nat×AV:=(11,.int .i64 ((bd.map Li.av).length:Nat))
theorem l175_0 (hbd:bd.length≤16) (hall:∀y,y∈bd→y.terms.length<1000):
  ∃(l:List ByteArray) (qs:List Eqn),Lo 57 (loopOf Tryz.f175 0) ⟨[Z1v0,Z1v1,Z1v2 bd,Z1v3 bd,(12,.int .i64 0)],rp [] []⟩ (.exit 0) ⟨[Z1v0,Z1v1],rp l qs⟩∧l.length≤16000∧qs.length≤16∧okQ qs:=by
 refine (fun ⟨⟨l,qs⟩,⟨h1,h2,h3⟩,h⟩=>⟨l,qs,h,by simp only at h1;omega,by simp only at h2;omega,h3⟩) (inv_loop0 (P:=Tryz.prog) (n:=57) (c:=loopOf Tryz.f175 0) (N:=bd.length) (k:=0) (γ:=List ByteArray×List Eqn) (fun i g=>⟨[Z1v0,Z1v1,Z1v2 bd,Z1v3 bd,(12,.int .i64 (i:Int))],rp g.1 g.2⟩) (fun g=>⟨[Z1v0,Z1v1],rp g.1 g.2⟩)
  (fun i g=>g.1.length≤i*1000∧g.2.length≤i∧okQ g.2) (fun i g hi hg=> ?_) (fun g hg=>e175 bd g.1 g.2) ([],[]) ⟨by simp,by simp,fun q hq=>by simp at hq⟩)
 obtain ⟨g1,g2⟩:=g
 obtain ⟨a1,a2,a3⟩:=hg
 simp only at a1 a2 a3
 obtain ⟨e,t,⟨rfl,l2,qs2,rfl,h1,h2⟩,h⟩:=t175 bd g1 g2 i hi hbd hall (by omega) (by omega)
 refine ⟨_,_,⟨rfl,(l2,qs2),⟨by simp only;omega,?_,?_⟩,rfl⟩,h⟩
 ·rcases h2 with rfl|⟨q,rfl,_⟩
  ·simp only;omega
  ·simp;omega
 ·rcases h2 with rfl|⟨q,rfl,hq⟩
  ·exact a3
  ·intro q' hq'
   rcases List.mem_append.1 hq' with h|h
   ·exact a3 q' h
   ·rw [List.mem_singleton] at h;rw [h];exact hq
theorem l175_1:∀(n:Nat) (l:List ByteArray) (qs:List Eqn),qs.length≤n→qs.length≤16→l.length+n*16<100000→okQ qs→
  ∃(l2:List ByteArray) (qs2:List Eqn),Lo 57 (loopOf Tryz.f175 1) ⟨[Z1v0,Z1v1],rp l qs⟩ (.exit 3) ⟨[Z1v0],rp l2 qs2⟩∧l2.length<100000
 |n,l,qs,h1,h0,h2,h3=>by
  obtain ⟨rb,l2,lf,sp,hb,b1,b2,b3⟩:=k212 l qs (by omega) (by omega) (fun q hq=>⟨by have:=(h3 q hq).1;omega,by have:=(h3 q hq).2;omega⟩)
  cases rb with
  |false=>
   obtain ⟨e,t,⟨rfl,rfl⟩,h⟩:=t175f l l2 qs lf sp
   exact ⟨l2,lf,.leave h (by simp),by omega⟩
  |true=>
   obtain ⟨e,t,⟨rfl,rfl⟩,h⟩:=t175t l l2 qs lf sp
   have hlt:=hb rfl
   cases n with
   |zero=>omega
   |succ n=>
    obtain ⟨l3,q3,hL,h4⟩:=l175_1 n l2 lf (by omega) (by omega) (by omega) (fun q hq=>h3 q (b3 q hq))
    exact ⟨l3,q3,.turn h hL,h4⟩
abbrev Z1v4:Nat×AV:=(2,.elt 100005 0 0)
theorem w175d (l l2:List ByteArray) (qs qs2:List Eqn) (l175_0q:Lo 57 (loopOf Tryz.f175 0) ⟨[Z1v0,Z1v1,Z1v2 bd,Z1v3 bd,(12,.int .i64 0)],rp [] []⟩ (.exit 0) ⟨[Z1v0,Z1v1],rp l qs⟩) (l175_1q:Lo 57 (loopOf Tryz.f175 1) ⟨[Z1v0,Z1v1],rp l qs⟩ (.exit 3) ⟨[Z1v0],rp l2 qs2⟩):En 57 (restC 3 (bodyOf Tryz.f175)) ⟨[(0,.seq (bd.map Li.av) false),Z1v0,Z1v1],rp [] []⟩ (fun e t=>e= .ret∧t=⟨[Z1v4],rp l2 qs2⟩):=by
 have hl0:=l175_0q
 have hl1:=l175_1q
 exact gE ⟨rfl,rfl⟩ 60000 [.cut [3,4,10,11,12] [K1 100000,K1 100003,K0 100005],.sum (.exit 0) [Z1v0,Z1v1] (rp l qs),.cut [3,4] [K1 100000,K1 100003,K0 100005],.sum (.exit 3) [Z1v0] (rp l2 qs2)] [2] [K0 100000,K1 100003,K0 100005] (aC7 rT rTT hl0 rT (zsq6af l) hl1 (zski2r l2))
theorem k175 (hbd:bd.length≤16) (hall:∀y,y∈bd→y.terms.length<1000):∃(l:List ByteArray),Sp 175 [.seq (bd.map Li.av) false] [] (.elt 100005 0 0) (fp l):=by
 obtain ⟨e,s,⟨rfl,rfl⟩,r0⟩:=w175a bd
 obtain ⟨e,s,⟨rfl,rfl⟩,r1⟩:=w175b bd
 obtain ⟨e,s,⟨rfl,rfl⟩,r2⟩:=w175c bd
 obtain ⟨l,qs,hL,h1,h2,h3⟩:=l175_0 bd hbd hall
 obtain ⟨l2,qs2,hL2,h4⟩:=l175_1 16 l qs h2 h2 (by omega) h3
 obtain ⟨e,s,⟨rfl,rfl⟩,r3⟩:=w175d bd l l2 qs qs2 hL hL2
 have r1':=r1.post (le_closeNil (st:=⟨_,[(100003,.map [] []),(100005,.var [.nils,.map 100003])]⟩) 100005 0 1 rfl rfl)
 have r2':=r2.post (le_closeNil (st:=⟨_,[(100000,.var [.nils]),(100003,.map [] []),(100005,.var [.own 1 [],.map 100003])]⟩) 100000 0 4 rfl rfl)
 have r:=RunsP.nth 0 (by kernel_rfl) r0.p (RunsP.nth 1 (by kernel_rfl) r1'.p (RunsP.nth 2 (by kernel_rfl) r2'.p r3.p))
 have r':=r.keepR [2] [K1 100003,K0 100005] (st':=⟨[Z1v4],fp l2⟩) (cs:=[noIdsL (l2.map AV.str)=true∧noIdsL (pos l2)=true]) rfl ⟨⟨noIdsL_strs l2,noIdsL_pos l2⟩,trivial⟩
 exact ⟨l2,Spec.newP (st':=⟨[Z1v4],fp l2⟩) (fn:=Tryz.f175) (c:=bodyOf Tryz.f175) (by kernel_rfl) (by kernel_rfl) rfl rfl r' (.inr rfl) (by kernel_rfl)⟩
abbrev Z1v5:Nat×AV:=(0,.agg [.str p,.seq (hd.map Ar.av) false,.seq (bd.map Li.av) false])
abbrev Z1v6 (rn:Int):St:=⟨[(2,.int .i64 rn)],[]⟩
theorem b121a (rn:Int) (hne:(!decide (rn=0))=true) (k49p:Sp 49 [.agg [.str p,.seq (hd.map Ar.av) false,.seq (bd.map Li.av) false]] [] (.int .i64 rn) []):En 16 (bodyOf Tryz.f121) ⟨[Z1v5 p hd bd],[]⟩ (fun e t=>e= .ret∧t=(Z1v6 rn)):=by
 exact gE ⟨rfl,rfl⟩ 0 [.call (.int .i64 rn) [] [],.is true] [2] [] (aC2 k49p hne)
theorem b121b (hbd:bd.length≤16) (hall:∀y,y∈bd→y.terms.length<1000) (hB:(hd.map Ar.t++liTerms bd).length<8796093022208) (hV:(varsOf (hd.map Ar.t++liTerms bd)).length≤9223372036854775807) (k49p:Sp 49 [.agg [.str p,.seq (hd.map Ar.av) false,.seq (bd.map Li.av) false]] [] (.int .i64 0) []):En 16 (bodyOf Tryz.f121) ⟨[Z1v5 p hd bd],[]⟩ (fun e t=>e= .ret∧∃(rn:Int) (l:List ByteArray),t=⟨[(2,.int .i64 rn)],fp l⟩):=by
 have hs0:=k49p
 obtain ⟨r1,hs2⟩:=k175 bd (by assumption) (by assumption)
 have hs3:=k91 p hd bd (by omega) (by assumption)
 obtain ⟨r4,hs5⟩:=k176 (varsOf (List.map Ar.t hd++liTerms bd)) (r1) (by assumption)
 cases r4 with
 |true=>
  exact ⟨Out.ret,St.mk [(2,.int .i64 0)] [(100003,.map (r1.map AV.str) (pos r1)),(100005,.var [.own 1 (r1.map AV.str),.map 100003])],⟨rfl,_,_,rfl⟩,gA 0 [.call (.int .i64 0) [] [],.is false,.call (.elt 100005 0 0) [] [(100003,.map (r1.map AV.str) (pos r1)),(100005,.var [.own 1 (r1.map AV.str),.map 100003])],.call (.seq (List.map AV.str (varsOf (List.map Ar.t hd++liTerms bd))) false) [] [],.call (.bool true) [100003,100005] []] [2] [K1 100003,K0 100005] (by kernel_rfl) (aC6 hs0 rF hs2 hs3 hs5 (show noIdsL (r1.map AV.str)=true∧noIdsL (pos r1)=true from by simp))⟩
 |false=>
  exact ⟨Out.ret,St.mk [(2,.int .i64 73)] [(100003,.map (r1.map AV.str) (pos r1)),(100005,.var [.own 1 (r1.map AV.str),.map 100003])],⟨rfl,_,_,rfl⟩,gA 0 [.call (.int .i64 0) [] [],.is false,.call (.elt 100005 0 0) [] [(100003,.map (r1.map AV.str) (pos r1)),(100005,.var [.own 1 (r1.map AV.str),.map 100003])],.call (.seq (List.map AV.str (varsOf (List.map Ar.t hd++liTerms bd))) false) [] [],.call (.bool false) [100003,100005] []] [2] [K1 100003,K0 100005] (by kernel_rfl) (aC6 hs0 rF hs2 hs3 hs5 (show noIdsL (r1.map AV.str)=true∧noIdsL (pos r1)=true from by simp))⟩
theorem k121p:∃rn:Int,Sp 121 [.agg [.str p,.seq (hd.map Ar.av) false,.seq (bd.map Li.av) false]] [] (.int .i64 rn) []∧(rn=0→smallR p hd bd):=by
 obtain ⟨rn,sp,hs⟩:=k49p p hd bd
 by_cases h0:rn=0
 ·subst h0
  have hsm:=hs rfl
  obtain ⟨_,h1,h2,h3⟩:=hsm
  have hB:=terms_rule h1 h2 h3
  have hV:=addT_len (hd.map Ar.t++liTerms bd) []
  obtain ⟨e,t,⟨rfl,rn,l,rfl⟩,h⟩:=b121b p hd bd h2 h3.1 hB (by unfold varsOf;simp only [List.length_nil] at hV;omega) sp
  have r:=h.p.keepR [2] [] (st':=(Z1v6 rn)) (cs:=[]) rfl trivial
  exact ⟨rn,Spec.pureP (st':=(Z1v6 rn)) (fn:=Tryz.f121) (c:=bodyOf Tryz.f121) (by kernel_rfl) (by kernel_rfl) (by simp [noIdsL,noIds]) r (.inr rfl) (by kernel_rfl) rfl,fun _=>hs rfl⟩
 ·obtain ⟨e,t,⟨rfl,rfl⟩,h⟩:=b121a p hd bd rn (by simp [h0]) sp
  exact ⟨rn,sP Tryz.f121 (by simp [noIdsL,noIds]) h (.inr rfl),fun h=>absurd h h0⟩
end
section
variable (rs:List Ru)
abbrev Z1w0:Nat×AV:=(0,.seq (rs.map Ru.av) false)
abbrev Z1w1:Nat×AV:=(13,.seq (rs.map Ru.av) false)
abbrev Z1w2:Nat×AV:=(14,.int .i64 ((rs.map Ru.av).length:Nat))
abbrev Z1w3 (rn:Int):Nat×AV:=(4,.int .i64 rn)
abbrev Z1w5 (i:Nat):St:=⟨[Z1w0 rs,(1,.nils),Z1w1 rs,Z1w2 rs,(15,.int .i64 (i:Int))],[]⟩
abbrev Z1w6 (rn:Int):St:=⟨[Z1w3 rn],[]⟩
theorem t76 (hsm:rs.length≤2000000) (i:Nat) (hi:i<rs.length):En 45 (loopOf Tryz.f76 0) (Z1w5 rs i) (fun e t=>(e= .ret∧∃rn:Int,t=(Z1w6 rn)∧rn≠0)∨(e= .normal∧t=⟨[Z1w0 rs,(1,.nils),Z1w1 rs,Z1w2 rs,(15,.int .i64 ((i+1:Nat):Int))],[]⟩∧∀y,rs[i]? =some y→smallR y.p y.hd y.bd)):=by
 obtain ⟨x0,hm0,hx0⟩:=elt_of Ru.av (l:=rs) (n:=(↑i:Int)) (by omega) (by omega)
 obtain ⟨r1,⟨hs2,hs2'⟩⟩:=k121p x0.1 x0.2 x0.3
 rcases bft (decide (r1=0)) with h3|h3
 ·exact ⟨Out.normal,St.mk [Z1w0 rs,(1,AV.nils),Z1w1 rs,(14,.int .i64 (↑(rs.map Ru.av).length:Int)),(15,.int .i64 ((i:Int)+1))] [],.inr ⟨rfl,rfl,fun y hy↦by have e:some y=some x0:=hy.symm.trans hm0;injection e with e;subst e;simp_all⟩,gA 0 [.is true,.elt (.agg [.str x0.1,.seq (List.map Ar.av x0.2) false,.seq (List.map Li.av x0.3) false]),.call (.int .i64 r1) [] [],.is false] [0,1,13,14,15] [] (by kernel_rfl) (aC5 (d1 Ru.av rs i (by omega)) hx0 hs2 (nF h3) (w1 i (by omega)))⟩
 ·exact ⟨Out.ret,St.mk [(4,.int .i64 r1)] [],.inl ⟨rfl,_,rfl,by simp_all⟩,gA 0 [.is true,.elt (.agg [.str x0.1,.seq (List.map Ar.av x0.2) false,.seq (List.map Li.av x0.3) false]),.call (.int .i64 r1) [] [],.is true] [4] [] (by kernel_rfl) (aC4 (d1 Ru.av rs i (by omega)) hx0 hs2 (nT h3))⟩
abbrev Z1w7:St:=⟨[Z1w0 rs,(1,.nils)],[]⟩
theorem e76:En 45 (loopOf Tryz.f76 0) ⟨[Z1w0 rs,(1,.nils),Z1w1 rs,Z1w2 rs,(15,.int .i64 ((rs.length:Nat):Int))],[]⟩ (fun e t=>e= .exit 0∧t=(Z1w7 rs)):=by
 exact gE ⟨rfl,rfl⟩ 0 [.is false] [0,1] [] (aC1 (zs40eu rs))
abbrev Z1w8:St:=⟨[Z1w0 rs,(1,.nils),(26,.int .i64 0),(27,.int .i64 0)],[]⟩
theorem e76f:En 45 (loopOf Tryz.f76 1) (Z1w8 rs) (fun e t=>e= .exit 2∧t=(Z1w7 rs)):=by
 exact gE ⟨rfl,rfl⟩ 0 [.is false] [0,1] [] (aC1 rF)
abbrev Z1w4:Nat×AV:=(15,.int .i64 0)
abbrev Z1w9:St:=⟨[Z1w0 rs,(1,.nils),Z1w1 rs,Z1w2 rs,Z1w4],[]⟩
theorem l76_0 (hsm:rs.length≤2000000):
  (∃rn:Int,Lo 45 (loopOf Tryz.f76 0) (Z1w9 rs) .ret (Z1w6 rn)∧rn≠0)∨
  (Lo 45 (loopOf Tryz.f76 0) (Z1w9 rs) (.exit 0) (Z1w7 rs)∧∀y,y∈rs→smallR y.p y.hd y.bd):=by
 rcases range_inv (P:=Tryz.prog) (n:=45) (c:=loopOf Tryz.f76 0) (N:=rs.length) (k:=0) (fun i=>⟨[Z1w0 rs,(1,.nils),Z1w1 rs,Z1w2 rs,(15,.int .i64 (i:Int))],[]⟩) (Z1w7 rs)
  (fun t=>∃rn:Int,t=(Z1w6 rn)∧rn≠0) (fun i=>∀y,rs[i]? =some y→smallR y.p y.hd y.bd) (fun i hi=>t76 rs hsm i hi) (e76 rs) with ⟨s,h,rn,rfl,h0⟩|⟨h,hr⟩
 ·exact .inl ⟨rn,h,h0⟩
 ·refine .inr ⟨h,fun y hy=> ?_⟩
  obtain ⟨i,hi⟩:=List.mem_iff_getElem?.1 hy
  exact hr i (List.getElem?_eq_some_iff.1 hi).1 y hi
theorem l76_1:Lo 45 (loopOf Tryz.f76 1) (Z1w8 rs) (.exit 2) (Z1w7 rs):=by
 obtain ⟨e,t,⟨rfl,rfl⟩,h⟩:=e76f rs
 exact .leave h (by simp)
theorem b76r (rn:Int) (l76_0q:Lo 45 (loopOf Tryz.f76 0) (Z1w9 rs) .ret (Z1w6 rn)):En 45 (bodyOf Tryz.f76) (Z1w7 rs) (fun e t=>e= .ret∧t=(Z1w6 rn)):=by
 have hl0:=l76_0q
 exact gE ⟨rfl,rfl⟩ 0 [.cut [0,1,13,14,15] [],.sum .ret [Z1w3 rn] []] [4] [] (aC1 hl0)
theorem b76e (rv:AV) (rn:Int) (k78:Sp 78 [.agg [.seq (rs.map Ru.av) false],.nils] [] (.tup [rv,.int .i64 rn]) []) (l76_0q:Lo 45 (loopOf Tryz.f76 0) (Z1w9 rs) (.exit 0) (Z1w7 rs)):En 45 (bodyOf Tryz.f76) (Z1w7 rs) (fun e t=>e= .ret∧t=(Z1w6 rn)):=by
 have hl0:=l76_0q
 have hl1:=l76_1 rs
 have hs2:=k78
 exact gE ⟨rfl,rfl⟩ 0 [.cut [0,1,13,14,15] [],.sum (.exit 0) [Z1w0 rs,(1,.nils)] [],.cut [0,1,26,27] [],.sum (.exit 2) [Z1w0 rs,(1,.nils)] [],.call (.tup [rv,.int .i64 rn]) [] []] [4] [] (aC3 hl0 hl1 hs2)
theorem small_names {rs:List Ru} (h:∀r,r∈rs→smallR r.p r.hd r.bd):(∀r,r∈rs→r.bd.length≤16)∧∀r,r∈rs→∀u,namesR r u→u.size≤1000000:=
 ⟨fun r hr=>(h r hr).2.2.1,fun r hr u hu=>by
  rcases hu with rfl|⟨y,hy,hk,rfl⟩
  ·have:=(h r hr).1;omega
  ·have:=((h r hr).2.2.2.2 y hy).1 hk;omega⟩
theorem k76 (hsm:rs.length≤2000000):∃rn:Int,Sp 76 [.seq (rs.map Ru.av) false,.nils] [] (.int .i64 rn) []∧(rn=0→∀r,r∈rs→smallR r.p r.hd r.bd):=by
 rcases l76_0 rs hsm with ⟨rn,hL,h0⟩|⟨hL,hs⟩
 ·obtain ⟨e,t,⟨rfl,rfl⟩,h⟩:=b76r rs rn hL
  exact ⟨rn,sQ Tryz.f76 h,fun h=>absurd h h0⟩
 ·obtain ⟨rv,rn,sp,_⟩:=k78 rs hsm (small_names hs).1 (small_names hs).2
  obtain ⟨e,t,⟨rfl,rfl⟩,h⟩:=b76e rs rv rn sp hL
  exact ⟨rn,sQ Tryz.f76 h,fun _=>hs⟩
end
@[simp] theorem okE_li (x:Li):okE 16 x.av:=⟨rfl,by simp [Li.av,Li.cells,atC,Ex.cells,exC,AV.cells,solid]⟩
@[simp] theorem noIds_li' (x:Li):noIds x.av=true:=noIds_li x
@[simp] theorem noIdsL_lis (l:List Li):noIdsL (l.map Li.av)=true:=noIdsL_of Li.av noIds_li l
theorem t134nt (p:ByteArray) (hd:List Ar) (bd:List Li) (hsm:bd.length≤16) (i:Nat) (hi:i<bd.length):En 52 (loopOf Tryz.f134 0) ⟨[(1,.elt 1 0 0),(3,.nils),(4,.bool true),(11,.seq (bd.map Li.av) false),(12,.int .i64 ((bd.map Li.av).length:Nat)),(13,.int .i64 (i:Int))],[(1,.var [.str p,.seq (hd.map Ar.av) false,.seq (bd.map Li.av) false])]⟩ (fun e t=>e= .normal∧∃b':Bool,t=⟨[(1,.elt 1 0 0),(3,.nils),(4,.bool b'),(11,.seq (bd.map Li.av) false),(12,.int .i64 ((bd.map Li.av).length:Nat)),(13,.int .i64 ((i+1:Nat):Int))],[(1,.var [.str p,.seq (hd.map Ar.av) false,.seq (bd.map Li.av) false])]⟩∨∃y,bd[i]? =some y∧t=⟨[(1,.elt 1 0 0),(3,.row 40 0 1),(4,.bool b'),(11,.seq (bd.map Li.av) false),(12,.int .i64 ((bd.map Li.av).length:Nat)),(13,.int .i64 ((i+1:Nat):Int))],[(1,.var [.str p,.seq (hd.map Ar.av) false,.seq (bd.map Li.av) false]),(40,.row 16 [y.av])]⟩):=by
 obtain ⟨x0,hm0,hx0⟩:=elt_of Li.av (l:=bd) (n:=(↑i:Int)) (by omega) (by omega)
 rcases bft (decide (x0.1=1)) with h1|h1
 ·exact ⟨Out.normal,St.mk [(1,AV.elt 1 0 0),(3,AV.row 40 0 (0+List.length [AV.agg (LiP x0 x0.2)])),(4,AV.bool true),(11,AV.seq (List.map Li.av bd) false),(12,AV.int .i64 (↑(List.length (List.map Li.av bd)):Int)),(13,AV.int .i64 ((↑i:Int)+1))] [(1,Ob.var [AV.str p,AV.seq (List.map Ar.av hd) false,AV.seq (List.map Li.av bd) false]),(40,Ob.row 16 [AV.agg (LiP x0 x0.2)])],by first|exact ⟨rfl,_,.inl rfl⟩|exact ⟨rfl,_,.inr ⟨x0,hm0,rfl⟩⟩,gA 0 [.is true,.elt (AV.agg (LiP x0 x0.2)),.is true,.is true] [1,3,4,11,12,13] [K1 1,(24,.keep 40 true)] (by kernel_rfl) (aC7 (d1 Li.av bd i (by omega)) hx0 h1 (show 1≤List.length [AV.agg (LiP x0 x0.2)]∧[AV.agg (LiP x0 x0.2)]≠[]∧(∀(e:AV),e∈[AV.agg (LiP x0 x0.2)]→okE 16 e)∧(∀(e:AV),e∈[]→okE 16 e)∧(↑(0+List.length [AV.agg (LiP x0 x0.2)]):Int)*216≤140737488355328∧0+List.length [AV.agg (LiP x0 x0.2)]≤9223372036854775807 from by simp[LiP]) (w1 i (by omega)) rT rT)⟩
 ·rcases bft (decide (x0.1=3)) with h2|h2
  ·exact ⟨Out.normal,St.mk [(1,AV.elt 1 0 0),(3,AV.nils),(4,AV.bool true),(11,AV.seq (List.map Li.av bd) false),(12,AV.int .i64 (↑(List.length (List.map Li.av bd)):Int)),(13,AV.int .i64 ((↑i:Int)+1))] [(1,Ob.var [AV.str p,AV.seq (List.map Ar.av hd) false,AV.seq (List.map Li.av bd) false])],by first|exact ⟨rfl,_,.inl rfl⟩|exact ⟨rfl,_,.inr ⟨x0,hm0,rfl⟩⟩,gA 0 [.is true,.elt (AV.agg (LiP x0 x0.2)),.is false,.is true] [1,3,4,11,12,13] [(1,Rk.keep 1 true)] (by kernel_rfl) (aC6 (d1 Li.av bd i (by omega)) hx0 h1 h2 (w1 i (by omega)) rT)⟩
  ·exact ⟨Out.normal,St.mk [(1,AV.elt 1 0 0),(3,AV.nils),(4,AV.bool true),(11,AV.seq (List.map Li.av bd) false),(12,AV.int .i64 (↑(List.length (List.map Li.av bd)):Int)),(13,AV.int .i64 ((↑i:Int)+1))] [(1,Ob.var [AV.str p,AV.seq (List.map Ar.av hd) false,AV.seq (List.map Li.av bd) false])],by first|exact ⟨rfl,_,.inl rfl⟩|exact ⟨rfl,_,.inr ⟨x0,hm0,rfl⟩⟩,gA 0 [.is true,.elt (AV.agg (LiP x0 x0.2)),.is false,.is false] [1,3,4,11,12,13] [(1,Rk.keep 1 true)] (by kernel_rfl) (aC6 (d1 Li.av bd i (by omega)) hx0 h1 h2 (w1 i (by omega)) rT)⟩
theorem t134rt (p:ByteArray) (hd:List Ar) (bd:List Li) (la:List Li) (hla:la.length≤1000) (hsm:bd.length≤16) (i:Nat) (hi:i<bd.length):En 52 (loopOf Tryz.f134 0) ⟨[(1,.elt 1 0 0),(3,.row 40 0 (la.map Li.av).length),(4,.bool true),(11,.seq (bd.map Li.av) false),(12,.int .i64 ((bd.map Li.av).length:Nat)),(13,.int .i64 (i:Int))],[(1,.var [.str p,.seq (hd.map Ar.av) false,.seq (bd.map Li.av) false]),(40,.row 16 (la.map Li.av))]⟩ (fun e t=>e= .normal∧∃b':Bool,t=⟨[(1,.elt 1 0 0),(3,.row 40 0 (la.map Li.av).length),(4,.bool b'),(11,.seq (bd.map Li.av) false),(12,.int .i64 ((bd.map Li.av).length:Nat)),(13,.int .i64 ((i+1:Nat):Int))],[(1,.var [.str p,.seq (hd.map Ar.av) false,.seq (bd.map Li.av) false]),(40,.row 16 (la.map Li.av))]⟩∨∃y,bd[i]? =some y∧t=⟨[(1,.elt 1 0 0),(3,.row 40 0 ((la.map Li.av).length+1)),(4,.bool b'),(11,.seq (bd.map Li.av) false),(12,.int .i64 ((bd.map Li.av).length:Nat)),(13,.int .i64 ((i+1:Nat):Int))],[(1,.var [.str p,.seq (hd.map Ar.av) false,.seq (bd.map Li.av) false]),(40,.row 16 (la.map Li.av++[y.av]))]⟩):=by
 obtain ⟨x0,hm0,hx0⟩:=elt_of Li.av (l:=bd) (n:=(↑i:Int)) (by omega) (by omega)
 rcases bft (decide (x0.1=1)) with h1|h1
 ·exact ⟨Out.normal,St.mk [(1,AV.elt 1 0 0),(3,AV.row 40 0 (List.length (List.map Li.av la)+List.length [AV.agg (LiP x0 x0.2)])),(4,AV.bool true),(11,AV.seq (List.map Li.av bd) false),(12,AV.int .i64 (↑(List.length (List.map Li.av bd)):Int)),(13,AV.int .i64 ((↑i:Int)+1))] [(1,Ob.var [AV.str p,AV.seq (List.map Ar.av hd) false,AV.seq (List.map Li.av bd) false]),(40,Ob.row 16 (List.map Li.av la++[AV.agg (LiP x0 x0.2)]))],by first|exact ⟨rfl,_,.inl rfl⟩|exact ⟨rfl,_,.inr ⟨x0,hm0,rfl⟩⟩,gA 0 [.is true,.elt (AV.agg (LiP x0 x0.2)),.is true,.is true] [1,3,4,11,12,13] [(1,Rk.keep 1 true),(24,Rk.keep 40 true)] (by kernel_rfl) (aC7 (d1 Li.av bd i (by omega)) hx0 h1 (show (1:Nat)≤List.length [AV.agg (LiP x0 x0.2)]∧(0:Nat)=(0:Nat)∧List.length (List.map Li.av la)=List.length (List.map Li.av la)∧(∀(e:AV),e∈[AV.agg (LiP x0 x0.2)]→okE (16:Nat) e)∧(∀(e:AV),e∈List.map Li.av la→okE (16:Nat) e)∧(↑(List.length (List.map Li.av la)+List.length [AV.agg (LiP x0 x0.2)]):Int)*(216:Int)≤(140737488355328:Int)∧List.length (List.map Li.av la)+List.length [AV.agg (LiP x0 x0.2)]≤(9223372036854775807:Nat) from by simp[LiP];omega) (w1 i (by omega)) rT (show noIdsL (List.map Li.av la++[AV.agg (LiP x0 x0.2)])=true from by simp[LiP]))⟩
 ·rcases bft (decide (x0.1=3)) with h2|h2
  ·exact ⟨Out.normal,St.mk [(1,AV.elt 1 0 0),(3,AV.row 40 0 (List.length (List.map Li.av la))),(4,AV.bool true),(11,AV.seq (List.map Li.av bd) false),(12,AV.int .i64 (↑(List.length (List.map Li.av bd)):Int)),(13,AV.int .i64 ((↑i:Int)+1))] [(1,Ob.var [AV.str p,AV.seq (List.map Ar.av hd) false,AV.seq (List.map Li.av bd) false]),(40,Ob.row 16 (List.map Li.av la))],by first|exact ⟨rfl,_,.inl rfl⟩|exact ⟨rfl,_,.inr ⟨x0,hm0,rfl⟩⟩,gA 0 [.is true,.elt (AV.agg (LiP x0 x0.2)),.is false,.is true] [1,3,4,11,12,13] [(1,Rk.keep 1 true),(40,Rk.keep 40 true)] (by kernel_rfl) (aC7 (d1 Li.av bd i (by omega)) hx0 h1 h2 (w1 i (by omega)) rT (show noIdsL (List.map Li.av la)=true from by simp))⟩
  ·exact ⟨Out.normal,St.mk [(1,AV.elt 1 0 0),(3,AV.row 40 0 (List.length (List.map Li.av la))),(4,AV.bool true),(11,AV.seq (List.map Li.av bd) false),(12,AV.int .i64 (↑(List.length (List.map Li.av bd)):Int)),(13,AV.int .i64 ((↑i:Int)+1))] [(1,Ob.var [AV.str p,AV.seq (List.map Ar.av hd) false,AV.seq (List.map Li.av bd) false]),(40,Ob.row 16 (List.map Li.av la))],by first|exact ⟨rfl,_,.inl rfl⟩|exact ⟨rfl,_,.inr ⟨x0,hm0,rfl⟩⟩,gA 0 [.is true,.elt (AV.agg (LiP x0 x0.2)),.is false,.is false] [1,3,4,11,12,13] [(1,Rk.keep 1 true),(40,Rk.keep 40 true)] (by kernel_rfl) (aC7 (d1 Li.av bd i (by omega)) hx0 h1 h2 (w1 i (by omega)) rT (show noIdsL (List.map Li.av la)=true from by simp))⟩
theorem t134nf (p:ByteArray) (hd:List Ar) (bd:List Li) (hsm:bd.length≤16) (i:Nat) (hi:i<bd.length):En 52 (loopOf Tryz.f134 0) ⟨[(1,.elt 1 0 0),(3,.nils),(4,.bool false),(11,.seq (bd.map Li.av) false),(12,.int .i64 ((bd.map Li.av).length:Nat)),(13,.int .i64 (i:Int))],[(1,.var [.str p,.seq (hd.map Ar.av) false,.seq (bd.map Li.av) false])]⟩ (fun e t=>e= .normal∧∃b':Bool,t=⟨[(1,.elt 1 0 0),(3,.nils),(4,.bool b'),(11,.seq (bd.map Li.av) false),(12,.int .i64 ((bd.map Li.av).length:Nat)),(13,.int .i64 ((i+1:Nat):Int))],[(1,.var [.str p,.seq (hd.map Ar.av) false,.seq (bd.map Li.av) false])]⟩∨∃y,bd[i]? =some y∧t=⟨[(1,.elt 1 0 0),(3,.row 40 0 1),(4,.bool b'),(11,.seq (bd.map Li.av) false),(12,.int .i64 ((bd.map Li.av).length:Nat)),(13,.int .i64 ((i+1:Nat):Int))],[(1,.var [.str p,.seq (hd.map Ar.av) false,.seq (bd.map Li.av) false]),(40,.row 16 [y.av])]⟩):=by
 obtain ⟨x0,hm0,hx0⟩:=elt_of Li.av (l:=bd) (n:=(↑i:Int)) (by omega) (by omega)
 rcases bft (decide (x0.1=1)) with h1|h1
 ·exact ⟨Out.normal,St.mk [(1,AV.elt 1 0 0),(3,AV.row 40 0 (0+List.length [AV.agg (LiP x0 x0.2)])),(4,AV.bool false),(11,AV.seq (List.map Li.av bd) false),(12,AV.int .i64 (↑(List.length (List.map Li.av bd)):Int)),(13,AV.int .i64 ((↑i:Int)+1))] [(1,Ob.var [AV.str p,AV.seq (List.map Ar.av hd) false,AV.seq (List.map Li.av bd) false]),(40,Ob.row 16 [AV.agg (LiP x0 x0.2)])],by first|exact ⟨rfl,_,.inl rfl⟩|exact ⟨rfl,_,.inr ⟨x0,hm0,rfl⟩⟩,gA 0 [.is true,.elt (AV.agg (LiP x0 x0.2)),.is true,.is true] [1,3,4,11,12,13] [K1 1,(24,.keep 40 true)] (by kernel_rfl) (aC7 (d1 Li.av bd i (by omega)) hx0 h1 (show 1≤List.length [AV.agg (LiP x0 x0.2)]∧[AV.agg (LiP x0 x0.2)]≠[]∧(∀(e:AV),e∈[AV.agg (LiP x0 x0.2)]→okE 16 e)∧(∀(e:AV),e∈[]→okE 16 e)∧(↑(0+List.length [AV.agg (LiP x0 x0.2)]):Int)*216≤140737488355328∧0+List.length [AV.agg (LiP x0 x0.2)]≤9223372036854775807 from by simp[LiP]) (w1 i (by omega)) rT rT)⟩
 ·rcases bft (decide (x0.1=3)) with h2|h2
  ·rcases bft (decide (Ex.op (Li.l x0)=0)) with h3|h3
   ·rcases bft (decide (Ex.op (Li.r x0)=0)) with h4|h4
    ·exact ⟨Out.normal,St.mk [(1,AV.elt 1 0 0),(3,AV.nils),(4,AV.bool false),(11,AV.seq (List.map Li.av bd) false),(12,AV.int .i64 (↑(List.length (List.map Li.av bd)):Int)),(13,AV.int .i64 ((↑i:Int)+1))] [(1,Ob.var [AV.str p,AV.seq (List.map Ar.av hd) false,AV.seq (List.map Li.av bd) false])],by first|exact ⟨rfl,_,.inl rfl⟩|exact ⟨rfl,_,.inr ⟨x0,hm0,rfl⟩⟩,gA 0 [.is true,.elt (AV.agg (LiP x0 x0.2)),.is false,.is true,.is false,.is false] [1,3,4,11,12,13] [(1,Rk.keep 1 true)] (by kernel_rfl) (aC8 (d1 Li.av bd i (by omega)) hx0 h1 h2 (nF h3) (nF h4) (w1 i (by omega)) rT)⟩
    ·exact ⟨Out.normal,St.mk [(1,AV.elt 1 0 0),(3,AV.nils),(4,AV.bool true),(11,AV.seq (List.map Li.av bd) false),(12,AV.int .i64 (↑(List.length (List.map Li.av bd)):Int)),(13,AV.int .i64 ((↑i:Int)+1))] [(1,Ob.var [AV.str p,AV.seq (List.map Ar.av hd) false,AV.seq (List.map Li.av bd) false])],by first|exact ⟨rfl,_,.inl rfl⟩|exact ⟨rfl,_,.inr ⟨x0,hm0,rfl⟩⟩,gA 0 [.is true,.elt (AV.agg (LiP x0 x0.2)),.is false,.is true,.is false,.is true] [1,3,4,11,12,13] [(1,Rk.keep 1 true)] (by kernel_rfl) (aC8 (d1 Li.av bd i (by omega)) hx0 h1 h2 (nF h3) (nT h4) (w1 i (by omega)) rT)⟩
   ·exact ⟨Out.normal,St.mk [(1,AV.elt 1 0 0),(3,AV.nils),(4,AV.bool true),(11,AV.seq (List.map Li.av bd) false),(12,AV.int .i64 (↑(List.length (List.map Li.av bd)):Int)),(13,AV.int .i64 ((↑i:Int)+1))] [(1,Ob.var [AV.str p,AV.seq (List.map Ar.av hd) false,AV.seq (List.map Li.av bd) false])],by first|exact ⟨rfl,_,.inl rfl⟩|exact ⟨rfl,_,.inr ⟨x0,hm0,rfl⟩⟩,gA 0 [.is true,.elt (AV.agg (LiP x0 x0.2)),.is false,.is true,.is true] [1,3,4,11,12,13] [(1,Rk.keep 1 true)] (by kernel_rfl) (aC7 (d1 Li.av bd i (by omega)) hx0 h1 h2 (nT h3) (w1 i (by omega)) rT)⟩
  ·exact ⟨Out.normal,St.mk [(1,AV.elt 1 0 0),(3,AV.nils),(4,AV.bool false),(11,AV.seq (List.map Li.av bd) false),(12,AV.int .i64 (↑(List.length (List.map Li.av bd)):Int)),(13,AV.int .i64 ((↑i:Int)+1))] [(1,Ob.var [AV.str p,AV.seq (List.map Ar.av hd) false,AV.seq (List.map Li.av bd) false])],by first|exact ⟨rfl,_,.inl rfl⟩|exact ⟨rfl,_,.inr ⟨x0,hm0,rfl⟩⟩,gA 0 [.is true,.elt (AV.agg (LiP x0 x0.2)),.is false,.is false] [1,3,4,11,12,13] [(1,Rk.keep 1 true)] (by kernel_rfl) (aC6 (d1 Li.av bd i (by omega)) hx0 h1 h2 (w1 i (by omega)) rT)⟩
theorem t134rf (p:ByteArray) (hd:List Ar) (bd:List Li) (la:List Li) (hla:la.length≤1000) (hsm:bd.length≤16) (i:Nat) (hi:i<bd.length):En 52 (loopOf Tryz.f134 0) ⟨[(1,.elt 1 0 0),(3,.row 40 0 (la.map Li.av).length),(4,.bool false),(11,.seq (bd.map Li.av) false),(12,.int .i64 ((bd.map Li.av).length:Nat)),(13,.int .i64 (i:Int))],[(1,.var [.str p,.seq (hd.map Ar.av) false,.seq (bd.map Li.av) false]),(40,.row 16 (la.map Li.av))]⟩ (fun e t=>e= .normal∧∃b':Bool,t=⟨[(1,.elt 1 0 0),(3,.row 40 0 (la.map Li.av).length),(4,.bool b'),(11,.seq (bd.map Li.av) false),(12,.int .i64 ((bd.map Li.av).length:Nat)),(13,.int .i64 ((i+1:Nat):Int))],[(1,.var [.str p,.seq (hd.map Ar.av) false,.seq (bd.map Li.av) false]),(40,.row 16 (la.map Li.av))]⟩∨∃y,bd[i]? =some y∧t=⟨[(1,.elt 1 0 0),(3,.row 40 0 ((la.map Li.av).length+1)),(4,.bool b'),(11,.seq (bd.map Li.av) false),(12,.int .i64 ((bd.map Li.av).length:Nat)),(13,.int .i64 ((i+1:Nat):Int))],[(1,.var [.str p,.seq (hd.map Ar.av) false,.seq (bd.map Li.av) false]),(40,.row 16 (la.map Li.av++[y.av]))]⟩):=by
 obtain ⟨x0,hm0,hx0⟩:=elt_of Li.av (l:=bd) (n:=(↑i:Int)) (by omega) (by omega)
 rcases bft (decide (x0.1=1)) with h1|h1
 ·exact ⟨Out.normal,St.mk [(1,AV.elt 1 0 0),(3,AV.row 40 0 (List.length (List.map Li.av la)+List.length [AV.agg (LiP x0 x0.2)])),(4,AV.bool false),(11,AV.seq (List.map Li.av bd) false),(12,AV.int .i64 (↑(List.length (List.map Li.av bd)):Int)),(13,AV.int .i64 ((↑i:Int)+1))] [(1,Ob.var [AV.str p,AV.seq (List.map Ar.av hd) false,AV.seq (List.map Li.av bd) false]),(40,Ob.row 16 (List.map Li.av la++[AV.agg (LiP x0 x0.2)]))],by first|exact ⟨rfl,_,.inl rfl⟩|exact ⟨rfl,_,.inr ⟨x0,hm0,rfl⟩⟩,gA 0 [.is true,.elt (AV.agg (LiP x0 x0.2)),.is true,.is true] [1,3,4,11,12,13] [(1,Rk.keep 1 true),(24,Rk.keep 40 true)] (by kernel_rfl) (aC7 (d1 Li.av bd i (by omega)) hx0 h1 (show (1:Nat)≤List.length [AV.agg (LiP x0 x0.2)]∧(0:Nat)=(0:Nat)∧List.length (List.map Li.av la)=List.length (List.map Li.av la)∧(∀(e:AV),e∈[AV.agg (LiP x0 x0.2)]→okE (16:Nat) e)∧(∀(e:AV),e∈List.map Li.av la→okE (16:Nat) e)∧(↑(List.length (List.map Li.av la)+List.length [AV.agg (LiP x0 x0.2)]):Int)*(216:Int)≤(140737488355328:Int)∧List.length (List.map Li.av la)+List.length [AV.agg (LiP x0 x0.2)]≤(9223372036854775807:Nat) from by simp[LiP];omega) (w1 i (by omega)) rT (show noIdsL (List.map Li.av la++[AV.agg (LiP x0 x0.2)])=true from by simp[LiP]))⟩
 ·rcases bft (decide (x0.1=3)) with h2|h2
  ·rcases bft (decide (Ex.op (Li.l x0)=0)) with h3|h3
   ·rcases bft (decide (Ex.op (Li.r x0)=0)) with h4|h4
    ·exact ⟨Out.normal,St.mk [(1,AV.elt 1 0 0),(3,AV.row 40 0 (List.length (List.map Li.av la))),(4,AV.bool false),(11,AV.seq (List.map Li.av bd) false),(12,AV.int .i64 (↑(List.length (List.map Li.av bd)):Int)),(13,AV.int .i64 ((↑i:Int)+1))] [(1,Ob.var [AV.str p,AV.seq (List.map Ar.av hd) false,AV.seq (List.map Li.av bd) false]),(40,Ob.row 16 (List.map Li.av la))],by first|exact ⟨rfl,_,.inl rfl⟩|exact ⟨rfl,_,.inr ⟨x0,hm0,rfl⟩⟩,gA 0 [.is true,.elt (AV.agg (LiP x0 x0.2)),.is false,.is true,.is false,.is false] [1,3,4,11,12,13] [(1,Rk.keep 1 true),(40,Rk.keep 40 true)] (by kernel_rfl) (aC9 (d1 Li.av bd i (by omega)) hx0 h1 h2 (nF h3) (nF h4) (w1 i (by omega)) rT (show noIdsL (List.map Li.av la)=true from by simp))⟩
    ·exact ⟨Out.normal,St.mk [(1,AV.elt 1 0 0),(3,AV.row 40 0 (List.length (List.map Li.av la))),(4,AV.bool true),(11,AV.seq (List.map Li.av bd) false),(12,AV.int .i64 (↑(List.length (List.map Li.av bd)):Int)),(13,AV.int .i64 ((↑i:Int)+1))] [(1,Ob.var [AV.str p,AV.seq (List.map Ar.av hd) false,AV.seq (List.map Li.av bd) false]),(40,Ob.row 16 (List.map Li.av la))],by first|exact ⟨rfl,_,.inl rfl⟩|exact ⟨rfl,_,.inr ⟨x0,hm0,rfl⟩⟩,gA 0 [.is true,.elt (AV.agg (LiP x0 x0.2)),.is false,.is true,.is false,.is true] [1,3,4,11,12,13] [(1,Rk.keep 1 true),(40,Rk.keep 40 true)] (by kernel_rfl) (aC9 (d1 Li.av bd i (by omega)) hx0 h1 h2 (nF h3) (nT h4) (w1 i (by omega)) rT (show noIdsL (List.map Li.av la)=true from by simp))⟩
   ·exact ⟨Out.normal,St.mk [(1,AV.elt 1 0 0),(3,AV.row 40 0 (List.length (List.map Li.av la))),(4,AV.bool true),(11,AV.seq (List.map Li.av bd) false),(12,AV.int .i64 (↑(List.length (List.map Li.av bd)):Int)),(13,AV.int .i64 ((↑i:Int)+1))] [(1,Ob.var [AV.str p,AV.seq (List.map Ar.av hd) false,AV.seq (List.map Li.av bd) false]),(40,Ob.row 16 (List.map Li.av la))],by first|exact ⟨rfl,_,.inl rfl⟩|exact ⟨rfl,_,.inr ⟨x0,hm0,rfl⟩⟩,gA 0 [.is true,.elt (AV.agg (LiP x0 x0.2)),.is false,.is true,.is true] [1,3,4,11,12,13] [(1,Rk.keep 1 true),(40,Rk.keep 40 true)] (by kernel_rfl) (aC8 (d1 Li.av bd i (by omega)) hx0 h1 h2 (nT h3) (w1 i (by omega)) rT (show noIdsL (List.map Li.av la)=true from by simp))⟩
  ·exact ⟨Out.normal,St.mk [(1,AV.elt 1 0 0),(3,AV.row 40 0 (List.length (List.map Li.av la))),(4,AV.bool false),(11,AV.seq (List.map Li.av bd) false),(12,AV.int .i64 (↑(List.length (List.map Li.av bd)):Int)),(13,AV.int .i64 ((↑i:Int)+1))] [(1,Ob.var [AV.str p,AV.seq (List.map Ar.av hd) false,AV.seq (List.map Li.av bd) false]),(40,Ob.row 16 (List.map Li.av la))],by first|exact ⟨rfl,_,.inl rfl⟩|exact ⟨rfl,_,.inr ⟨x0,hm0,rfl⟩⟩,gA 0 [.is true,.elt (AV.agg (LiP x0 x0.2)),.is false,.is false] [1,3,4,11,12,13] [(1,Rk.keep 1 true),(40,Rk.keep 40 true)] (by kernel_rfl) (aC7 (d1 Li.av bd i (by omega)) hx0 h1 h2 (w1 i (by omega)) rT (show noIdsL (List.map Li.av la)=true from by simp))⟩
abbrev Z1x0:Nat×AV:=(1,.elt 1 0 0)
abbrev Z1x1 (p:ByteArray) (hd:List Ar) (bd:List Li):Nat×Ob:=(1,.var [.str p,.seq (hd.map Ar.av) false,.seq (bd.map Li.av) false])
theorem e134n (p:ByteArray) (hd:List Ar) (bd:List Li) (b:Bool):En 52 (loopOf Tryz.f134 0) ⟨[Z1x0,(3,.nils),(4,.bool b),(11,.seq (bd.map Li.av) false),(12,.int .i64 ((bd.map Li.av).length:Nat)),(13,.int .i64 ((bd.length:Nat):Int))],[Z1x1 p hd bd]⟩ (fun e t=>e= .exit 0∧t=⟨[Z1x0,(3,.nils),(4,.bool b)],[Z1x1 p hd bd]⟩):=by
 exact gE ⟨rfl,rfl⟩ 0 [.is false] [1,3,4] [K1 1] (aC2 (zsvzxo bd) rT)
theorem zs6098 (la:List Li):noIdsL (la.map Li.av)=true:=by simp
theorem e134r (p:ByteArray) (hd:List Ar) (bd:List Li) (la:List Li) (b:Bool):En 52 (loopOf Tryz.f134 0) ⟨[Z1x0,(3,.row 40 0 (la.map Li.av).length),(4,.bool b),(11,.seq (bd.map Li.av) false),(12,.int .i64 ((bd.map Li.av).length:Nat)),(13,.int .i64 ((bd.length:Nat):Int))],[Z1x1 p hd bd,(40,.row 16 (la.map Li.av))]⟩ (fun e t=>e= .exit 0∧t=⟨[Z1x0,(3,.row 40 0 (la.map Li.av).length),(4,.bool b)],[Z1x1 p hd bd,(40,.row 16 (la.map Li.av))]⟩):=by
 exact gE ⟨rfl,rfl⟩ 0 [.is false] [1,3,4] [K1 1,K1 40] (aC3 (zsvzxo bd) rT (zs6098 la))
section
variable (p:ByteArray) (hd:List Ar) (bd la:List Li) (b:Bool)
def lvM:List Li→AV
 |[]=> .nils
 |x::r=> .row 40 0 ((x::r).map Li.av).length
def loM:List Li→List (Nat×Ob)
 |[]=>[]
 |x::r=>[(40,.row 16 ((x::r).map Li.av))]
abbrev Z1y0:Nat×AV:=(1,.elt 1 0 0)
abbrev Z1y1:Nat×AV:=(11,.seq (bd.map Li.av) false)
abbrev Z1y2:Nat×AV:=(12,.int .i64 ((bd.map Li.av).length:Nat))
abbrev Z1y3:Nat×Ob:=(1,.var [.str p,.seq (hd.map Ar.av) false,.seq (bd.map Li.av) false])
def st134 (p:ByteArray) (hd:List Ar) (bd:List Li) (i:Int) (b:Bool) (la:List Li):St:=⟨[Z1y0,(3,lvM la),(4,.bool b),Z1y1 bd,Z1y2 bd,(13,.int .i64 i)],[Z1y3 p hd bd]++loM la⟩
def sE134 (p:ByteArray) (hd:List Ar) (bd:List Li) (b:Bool) (la:List Li):St:=⟨[Z1y0,(3,lvM la),(4,.bool b)],[Z1y3 p hd bd]++loM la⟩
theorem turn134 (hla:la.length≤1000) (hsm:bd.length≤16) (i:Nat) (hi:i<bd.length):
  ∃(b':Bool) (la':List Li),(la'=la∨∃y,bd[i]? =some y∧la'=la++[y])∧Rz 52 (loopOf Tryz.f134 0) (st134 p hd bd (i:Int) b la) .normal (st134 p hd bd ((i+1:Nat):Int) b' la'):=by
 cases la with
 |nil=>
  cases b
  ·obtain ⟨e,t,⟨rfl,b',rfl|⟨y,hy,rfl⟩⟩,r⟩:=t134nf p hd bd hsm i hi
   ·exact ⟨b',[],.inl rfl,r⟩
   ·exact ⟨b',[y],.inr ⟨y,hy,rfl⟩,r⟩
  ·obtain ⟨e,t,⟨rfl,b',rfl|⟨y,hy,rfl⟩⟩,r⟩:=t134nt p hd bd hsm i hi
   ·exact ⟨b',[],.inl rfl,r⟩
   ·exact ⟨b',[y],.inr ⟨y,hy,rfl⟩,r⟩
 |cons x q=>
  cases b
  ·obtain ⟨e,t,⟨rfl,b',rfl|⟨y,hy,rfl⟩⟩,r⟩:=t134rf p hd bd (x::q) hla hsm i hi
   ·exact ⟨b',x::q,.inl rfl,r⟩
   ·refine ⟨b',x::(q++[y]),.inr ⟨y,hy,rfl⟩,?_⟩
    have e2:(((x::q).map Li.av).length+1:Nat)=((x::(q++[y])).map Li.av).length:=by simp
    have e3:(x::q).map Li.av++[y.av]=(x::(q++[y])).map Li.av:=by simp
    rw [e2,e3] at r
    exact r
  ·obtain ⟨e,t,⟨rfl,b',rfl|⟨y,hy,rfl⟩⟩,r⟩:=t134rt p hd bd (x::q) hla hsm i hi
   ·exact ⟨b',x::q,.inl rfl,r⟩
   ·refine ⟨b',x::(q++[y]),.inr ⟨y,hy,rfl⟩,?_⟩
    have e2:(((x::q).map Li.av).length+1:Nat)=((x::(q++[y])).map Li.av).length:=by simp
    have e3:(x::q).map Li.av++[y.av]=(x::(q++[y])).map Li.av:=by simp
    rw [e2,e3] at r
    exact r
theorem l134_0 (hsm:bd.length≤16):
  ∃(b:Bool) (la:List Li),Lo 52 (loopOf Tryz.f134 0) (st134 p hd bd 0 false []) (.exit 0) (sE134 p hd bd b la)∧(∀y,y∈la→y∈bd)∧la.length≤16:=by
 refine (fun ⟨⟨b,la⟩,⟨h1,h2⟩,h⟩=>⟨b,la,h,h1,by simp only at h2;omega⟩) (inv_loop0 (P:=Tryz.prog) (n:=52) (c:=loopOf Tryz.f134 0) (N:=bd.length) (k:=0) (γ:=Bool×List Li) (fun i g=>st134 p hd bd (i:Int) g.1 g.2) (fun g=>sE134 p hd bd g.1 g.2)
  (fun i g=>(∀y,y∈g.2→y∈bd)∧g.2.length≤i) (fun i g hi hg=> ?_) (fun g hg=> ?_) (false,[]) ⟨by simp,by simp⟩)
 ·obtain ⟨b,la⟩:=g
  obtain ⟨b',la',hla,r⟩:=turn134 p hd bd la b (by have:=hg.2;simp only at this;omega) hsm i hi
  refine ⟨_,_,⟨rfl,(b',la'),?_,rfl⟩,r⟩
  rcases hla with rfl|⟨y,hy,rfl⟩
  ·exact ⟨hg.1,Nat.le_succ_of_le hg.2⟩
  ·refine ⟨fun z hz=> ?_,by have:=hg.2;simp only at this;simp;omega⟩
   rcases List.mem_append.1 hz with q|q
   ·exact hg.1 z q
   ·rw [List.mem_singleton] at q;rw [q];exact List.mem_of_getElem? hy
 ·obtain ⟨b,la⟩:=g
  cases la with
  |nil=>exact e134n p hd bd b
  |cons x q=>exact e134r p hd bd (x::q) b
theorem k175a (h0:bd=[]):∃(l:List ByteArray),Sp 175 [.nils] [] (.elt 100005 0 0) (fp l):=by
 subst h0
 obtain ⟨l,h⟩:=k175 [] (by simp) (by simp)
 exact ⟨l,Spec.wkA h rfl (fun i x y hx hy=>by
  cases i with
  |zero=>simp at hx hy;subst hx;subst hy;exact .nils
  |succ i=>simp at hx)⟩
theorem k91a (hB:hd.length<8796093022208):Sp 91 [.agg [.str p,.seq (hd.map Ar.av) false,.nils]] [] (.seq ((varsOf (hd.map Ar.t)).map .str) false) []:=by
 have h:=k91 p hd [] (by simp) (by simp [liTerms];omega)
 have e:hd.map Ar.t++liTerms []=hd.map Ar.t:=by simp [liTerms]
 rw [e] at h
 refine Spec.wkA h rfl (fun i x y hx hy=> ?_)
 cases i with
 |zero=>
  simp at hx hy;subst hx;subst hy
  refine .agg _ _ rfl (fun i c d hc hd'=> ?_)
  match i with
  |0=>simp at hc hd';subst hc;subst hd';exact .refl _
  |1=>simp at hc hd';subst hc;subst hd';exact .refl _
  |2=>simp at hc hd';subst hc;subst hd';exact .nils
  |(i+3)=>simp at hc
 |succ i=>simp at hx
abbrev Z1y4:Nat×AV:=(0,.agg [.str p,.seq (hd.map Ar.av) false,.seq (bd.map Li.av) false])
theorem b134r (rn:Int) (hne:(!decide (rn=0))=true) (k121p:Sp 121 [.agg [.str p,.seq (hd.map Ar.av) false,.seq (bd.map Li.av) false]] [] (.int .i64 rn) []):En 52 (bodyOf Tryz.f134) ⟨[Z1y4 p hd bd],[]⟩ (fun e t=>e= .ret∧t=⟨[(2,.bool false)],[]⟩):=by
 exact gE ⟨rfl,rfl⟩ 0 [.call (.int .i64 rn) [] [],.is true] [2] [] (aC2 k121p hne)
abbrev Z1y7:St:=⟨[Z1y0],[Z1y3 p hd bd]⟩
theorem w134a:EN 52 (partC 0 (bodyOf Tryz.f134)) ⟨[Z1y4 p hd bd],[]⟩ (Z1y7 p hd bd):=by
 exact gE ⟨rfl,rfl⟩ 0 [] [1] [K1 1] (aC1 rT)
theorem w134b (k121p:Sp 121 [.agg [.str p,.seq (hd.map Ar.av) false,.seq (bd.map Li.av) false]] [] (.int .i64 0) []):EN 52 (partC 1 (bodyOf Tryz.f134)) (Z1y7 p hd bd) (Z1y7 p hd bd):=by
 have hs0:=k121p
 exact gE ⟨rfl,rfl⟩ 0 [.call (.int .i64 0) [] [],.is false] [1] [K1 1] (aC3 hs0 rF rT)
theorem w134c:EN 52 (partC 2 (bodyOf Tryz.f134)) (Z1y7 p hd bd) ⟨[Z1y0,(3,.nils)],[Z1y3 p hd bd]⟩:=by
 exact gE ⟨rfl,rfl⟩ 0 [] [1,3] [K1 1] (aC1 rT)
abbrev Z1y5:Nat×AV:=(4,.bool false)
abbrev Z1y8:St:=⟨[Z1y0,(3,.nils),Z1y5],[Z1y3 p hd bd]⟩
theorem w134d:EN 52 (partC 3 (bodyOf Tryz.f134)) ⟨[Z1y0,(3,.nils)],[Z1y3 p hd bd]⟩ (Z1y8 p hd bd):=by
 exact gE ⟨rfl,rfl⟩ 0 [] [1,3,4] [K1 1] (aC1 rT)
abbrev Z1y9:St:=⟨[Z1y0,(3,.nils),Z1y5,Z1y1 bd,Z1y2 bd,(13,.int .i64 0)],[Z1y3 p hd bd]⟩
abbrev Z1ya:St:=⟨[Z1y0,(3,.nils),(4,.bool b)],[Z1y3 p hd bd]⟩
theorem w134en (l134_0q:Lo 52 (loopOf Tryz.f134 0) (Z1y9 p hd bd) (.exit 0) (Z1ya p hd bd b)):EN 52 (partC 4 (bodyOf Tryz.f134)) (Z1y8 p hd bd) (Z1ya p hd bd b):=by
 have hl0:=l134_0q
 exact gE ⟨rfl,rfl⟩ 0 [.cut [1,3,4,11,12,13] [K1 1],.sum (.exit 0) [Z1y0,(3,.nils),(4,.bool b)] [Z1y3 p hd bd]] [1,3,4] [K1 1] (aC3 rT hl0 rT)
abbrev Z1y6:Nat×Ob:=(40,.row 16 (la.map Li.av))
abbrev Z1yb:St:=⟨[Z1y0,(3,.row 40 0 (la.map Li.av).length),(4,.bool b)],[Z1y3 p hd bd,Z1y6 la]⟩
theorem w134er (l134_0q:Lo 52 (loopOf Tryz.f134 0) (Z1y9 p hd bd) (.exit 0) (Z1yb p hd bd la b)):EN 52 (partC 4 (bodyOf Tryz.f134)) (Z1y8 p hd bd) (Z1yb p hd bd la b):=by
 have hl0:=l134_0q
 exact gE ⟨rfl,rfl⟩ 0 [.cut [1,3,4,11,12,13] [K1 1],.sum (.exit 0) [Z1y0,(3,.row 40 0 (la.map Li.av).length),(4,.bool b)] [Z1y3 p hd bd,Z1y6 la]] [1,3,4] [K1 1,K1 40] (aC4 rT hl0 rT (zs6098 la))
theorem w134ft (k175:∃l:List ByteArray,Sp 175 [.seq (la.map Li.av) false] [] (.elt 100005 0 0) (fp l)) (hhd:hd.length≤24) (hV:(varsOf (hd.map Ar.t)).length≤9223372036854775807):En 52 (restC 5 (bodyOf Tryz.f134)) ⟨[Z1y0,(3,.seq (la.map Li.av) false),(4,.bool true)],[Z1y3 p hd bd]⟩ (fun e t=>e= .ret∧∃rb:Bool,t=⟨[(2,.bool rb)],[]⟩∨∃l:List ByteArray,t=⟨[(2,.bool rb)],fp l⟩):=by
 obtain ⟨r0,hs1⟩:=k175
 have hs2:=k91a (ByteArray.mk #[]) (hd) (by omega)
 obtain ⟨r3,hs4⟩:=k176 (varsOf (List.map Ar.t hd)) (r0) (by assumption)
 cases r3 with
 |true=>
  exact ⟨Out.ret,St.mk [(2,.bool false)] [(100003,.map (r0.map AV.str) (pos r0)),(100005,.var [.own 1 (r0.map AV.str),.map 100003])],by first|exact ⟨rfl,_,.inl rfl⟩|exact ⟨rfl,_,.inr ⟨_,rfl⟩⟩,gA 0 [.call (.elt 100005 0 0) [] [(100003,.map (r0.map AV.str) (pos r0)),(100005,.var [.own 1 (r0.map AV.str),.map 100003])],.call (.seq (List.map AV.str (varsOf (hd.map Ar.t))) false) [] [],.call (.bool true) [100003,100005] []] [2] [K1 100003,K0 100005] (by kernel_rfl) (aC4 hs1 hs2 hs4 (show noIdsL (r0.map AV.str)=true∧noIdsL (pos r0)=true from by simp))⟩
 |false=>
  exact ⟨Out.ret,St.mk [(2,.bool true)] [(100003,.map (r0.map AV.str) (pos r0)),(100005,.var [.own 1 (r0.map AV.str),.map 100003])],by first|exact ⟨rfl,_,.inl rfl⟩|exact ⟨rfl,_,.inr ⟨_,rfl⟩⟩,gA 0 [.call (.elt 100005 0 0) [] [(100003,.map (r0.map AV.str) (pos r0)),(100005,.var [.own 1 (r0.map AV.str),.map 100003])],.call (.seq (List.map AV.str (varsOf (hd.map Ar.t))) false) [] [],.call (.bool false) [100003,100005] []] [2] [K1 100003,K0 100005] (by kernel_rfl) (aC4 hs1 hs2 hs4 (show noIdsL (r0.map AV.str)=true∧noIdsL (pos r0)=true from by simp))⟩
theorem w134ff (k175:∃l:List ByteArray,Sp 175 [.seq (la.map Li.av) false] [] (.elt 100005 0 0) (fp l)) (hhd:hd.length≤24) (hV:(varsOf (hd.map Ar.t)).length≤9223372036854775807):En 52 (restC 5 (bodyOf Tryz.f134)) ⟨[Z1y0,(3,.seq (la.map Li.av) false),Z1y5],[Z1y3 p hd bd]⟩ (fun e t=>e= .ret∧∃rb:Bool,t=⟨[(2,.bool rb)],[]⟩∨∃l:List ByteArray,t=⟨[(2,.bool rb)],fp l⟩):=by
 exact ⟨Out.ret,St.mk [(2,.bool false)] [],by first|exact ⟨rfl,_,.inl rfl⟩|exact ⟨rfl,_,.inr ⟨_,rfl⟩⟩,gA 0 [] [2] [] (by kernel_rfl) (aN)⟩
end
end Go.Ped
