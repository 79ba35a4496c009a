/- What the functions of the packages check and depend answer is proved for every input. -/
import Derived.Test.YthhfolohakiemaaGreatDoorBareC
set_option linter.unusedVariables false
set_option linter.unnecessarySimpa false
set_option linter.unusedSimpArgs false
namespace Go.Ped
open Go.RowKit Go.Proofs
section
variable (p:ByteArray) (hd:List Ar) (bd:List Li)
abbrev Z1z0:Nat×AV:=(1,.elt 1 0 0)
abbrev Z1z1:Nat×Ob:=(1,.var [.str p,.seq (hd.map Ar.av) false,.seq (bd.map Li.av) false])
abbrev Z1z2 (rb:Bool):St:=⟨[(2,.bool rb)],[]⟩
theorem w134gt (k175:∃l:List ByteArray,Sp 175 [.nils] [] (.elt 100005 0 0) (fp l)) (hhd:hd.length≤24) (hV:(varsOf (hd.map Ar.t)).length≤9223372036854775807):En 52 (restC 5 (bodyOf Tryz.f134)) ⟨[Z1z0,(3,.nils),(4,.bool true)],[Z1z1 p hd bd]⟩ (fun e t=>e= .ret∧∃rb:Bool,t=(Z1z2 rb)∨∃l:List ByteArray,t=⟨[(2,.bool rb)],fp l⟩):=by
 obtain ⟨r0,hs1⟩:=k175
 have hs2:=k91a (ByteArray.mk #[]) (hd) (by omega)
 obtain ⟨r3,hs4⟩:=k176 (varsOf (List.map Ar.t hd)) (r0) (by assumption)
 cases r3 with
 |true=>
  exact ⟨Out.ret,St.mk [(2,.bool false)] [(100003,.map (r0.map AV.str) (pos r0)),(100005,.var [.own 1 (r0.map AV.str),.map 100003])],by first|exact ⟨rfl,_,.inl rfl⟩|exact ⟨rfl,_,.inr ⟨_,rfl⟩⟩,gA 0 [.call (.elt 100005 0 0) [] [(100003,.map (r0.map AV.str) (pos r0)),(100005,.var [.own 1 (r0.map AV.str),.map 100003])],.call (.seq (List.map AV.str (varsOf (hd.map Ar.t))) false) [] [],.call (.bool true) [100003,100005] []] [2] [K1 100003,K0 100005] (by kernel_rfl) (aC4 hs1 hs2 hs4 (show noIdsL (r0.map AV.str)=true∧noIdsL (pos r0)=true from by simp))⟩
 |false=>
  exact ⟨Out.ret,St.mk [(2,.bool true)] [(100003,.map (r0.map AV.str) (pos r0)),(100005,.var [.own 1 (r0.map AV.str),.map 100003])],by first|exact ⟨rfl,_,.inl rfl⟩|exact ⟨rfl,_,.inr ⟨_,rfl⟩⟩,gA 0 [.call (.elt 100005 0 0) [] [(100003,.map (r0.map AV.str) (pos r0)),(100005,.var [.own 1 (r0.map AV.str),.map 100003])],.call (.seq (List.map AV.str (varsOf (hd.map Ar.t))) false) [] [],.call (.bool false) [100003,100005] []] [2] [K1 100003,K0 100005] (by kernel_rfl) (aC4 hs1 hs2 hs4 (show noIdsL (r0.map AV.str)=true∧noIdsL (pos r0)=true from by simp))⟩
theorem w134gf (k175:∃l:List ByteArray,Sp 175 [.nils] [] (.elt 100005 0 0) (fp l)) (hhd:hd.length≤24) (hV:(varsOf (hd.map Ar.t)).length≤9223372036854775807):En 52 (restC 5 (bodyOf Tryz.f134)) ⟨[Z1z0,(3,.nils),(4,.bool false)],[Z1z1 p hd bd]⟩ (fun e t=>e= .ret∧∃rb:Bool,t=(Z1z2 rb)∨∃l:List ByteArray,t=⟨[(2,.bool rb)],fp l⟩):=by
 exact ⟨Out.ret,St.mk [(2,.bool false)] [],by first|exact ⟨rfl,_,.inl rfl⟩|exact ⟨rfl,_,.inr ⟨_,rfl⟩⟩,gA 0 [] [2] [] (by kernel_rfl) (aN)⟩
theorem k134:∃rb:Bool,Sp 134 [.agg [.str p,.seq (hd.map Ar.av) false,.seq (bd.map Li.av) false]] [] (.bool rb) []:=by
 obtain ⟨rn,sp,hs⟩:=k121p p hd bd
 by_cases h0:rn=0
 ·subst h0
  obtain ⟨_,h1,h2,h3⟩:=hs rfl
  obtain ⟨e,t,⟨rfl,rfl⟩,r0⟩:=w134a p hd bd
  obtain ⟨e,t,⟨rfl,rfl⟩,r1⟩:=w134b p hd bd sp
  obtain ⟨e,t,⟨rfl,rfl⟩,r2⟩:=w134c p hd bd
  obtain ⟨e,t,⟨rfl,rfl⟩,r3⟩:=w134d p hd bd
  obtain ⟨b,la,hL,hin,hla⟩:=l134_0 p hd bd h2
  have hV:(varsOf (hd.map Ar.t)).length≤9223372036854775807:=by
   have:=addT_len (hd.map Ar.t) []
   simp only [List.length_nil,List.length_map] at this
   unfold varsOf;omega
  have fin:∀(rb:Bool) (t:St),(t=(Z1z2 rb)∨∃l:List ByteArray,t=⟨[(2,.bool rb)],fp l⟩)→RunsP Tryz.prog 52 (bodyOf Tryz.f134) ⟨argEnv 0 [.agg [.str p,.seq (hd.map Ar.av) false,.seq (bd.map Li.av) false]],[]⟩ .ret t→∃rb:Bool,Sp 134 [.agg [.str p,.seq (hd.map Ar.av) false,.seq (bd.map Li.av) false]] [] (.bool rb) []:=by
   intro rb t ht r
   have r':RunsP Tryz.prog 52 (bodyOf Tryz.f134) ⟨argEnv 0 [.agg [.str p,.seq (hd.map Ar.av) false,.seq (bd.map Li.av) false]],[]⟩ .ret (Z1z2 rb):=by
    rcases ht with rfl|⟨l,rfl⟩
    ·exact r
    ·exact r.keepR [2] [] (cs:=[]) rfl trivial
   exact ⟨rb,Spec.pureP (st':=(Z1z2 rb)) (fn:=Tryz.f134) (c:=bodyOf Tryz.f134) (by kernel_rfl) (by kernel_rfl) (by simp [noIdsL,noIds]) r' (.inr rfl) (by kernel_rfl) rfl⟩
  cases la with
  |nil=>
   obtain ⟨e,t,⟨rfl,rfl⟩,r4⟩:=w134en p hd bd b hL
   have main:∀(rb:Bool) (t:St),(t=(Z1z2 rb)∨∃l:List ByteArray,t=⟨[(2,.bool rb)],fp l⟩)→Rz 52 (restC 5 (bodyOf Tryz.f134)) ⟨[Z1z0,(3,.nils),(4,.bool b)],[Z1z1 p hd bd]⟩ .ret t→_:=fun rb t ht r5=>
    fin rb t ht (RunsP.nth 0 (by kernel_rfl) r0.p (RunsP.nth 1 (by kernel_rfl) r1.p (RunsP.nth 2 (by kernel_rfl) r2.p (RunsP.nth 3 (by kernel_rfl) r3.p (RunsP.nth 4 (by kernel_rfl) r4.p r5.p)))))
   cases b with
   |true=>obtain ⟨e,t,⟨rfl,rb,ht⟩,r5⟩:=w134gt p hd bd (k175a [] rfl) h1 hV;exact main rb t ht r5
   |false=>obtain ⟨e,t,⟨rfl,rb,ht⟩,r5⟩:=w134gf p hd bd (k175a [] rfl) h1 hV;exact main rb t ht r5
  |cons x q=>
   obtain ⟨e,t,⟨rfl,rfl⟩,r4⟩:=w134er p hd bd (x::q) b hL
   have r4':=r4.keepR [1,3,4] [K1 1,(40,.freeze)] (st':=⟨[Z1z0,(3,.seq ((x::q).map Li.av) false),(4,.bool b)],[Z1z1 p hd bd]⟩) (cs:=[((x::q).map Li.av).length=((x::q).map Li.av).length,true=true,noIdsL ((x::q).map Li.av)=true]) rfl ⟨rfl,rfl,noIdsL_lis _,trivial⟩
   have main:∀(rb:Bool) (t:St),(t=(Z1z2 rb)∨∃l:List ByteArray,t=⟨[(2,.bool rb)],fp l⟩)→Rz 52 (restC 5 (bodyOf Tryz.f134)) ⟨[Z1z0,(3,.seq ((x::q).map Li.av) false),(4,.bool b)],[Z1z1 p hd bd]⟩ .ret t→_:=fun rb t ht r5=>
    fin rb t ht (RunsP.nth 0 (by kernel_rfl) r0.p (RunsP.nth 1 (by kernel_rfl) r1.p (RunsP.nth 2 (by kernel_rfl) r2.p (RunsP.nth 3 (by kernel_rfl) r3.p (RunsP.nth 4 (by kernel_rfl) r4'.p r5.p)))))
   have k:=k175 (x::q) hla (fun y hy=>h3.1 y (hin y hy))
   cases b with
   |true=>obtain ⟨e,t,⟨rfl,rb,ht⟩,r5⟩:=w134ft p hd bd (x::q) k h1 hV;exact main rb t ht r5
   |false=>obtain ⟨e,t,⟨rfl,rb,ht⟩,r5⟩:=w134ff p hd bd (x::q) k h1 hV;exact main rb t ht r5
 ·obtain ⟨e,t,⟨rfl,rfl⟩,h⟩:=b134r p hd bd rn (by simp [h0]) sp
  exact ⟨false,sP Tryz.f134 (by simp [noIdsL,noIds]) h (.inr rfl)⟩
end
section
variable (a b:ByteArray) (l:List Ar)
theorem b219 (a:Ar):En 6 (bodyOf Tryz.f219) ⟨[(0,a.av)],[]⟩ (fun e t=>e= .ret∧∃rb,t=⟨[(2,.bool rb)],[]⟩):=by
 rcases bft (decide (Ar.g a=0)) with h0|h0
 ·exact ⟨Out.ret,St.mk [(2,.bool false)] [],⟨rfl,_,rfl⟩,gA 0 [.is false] [2] [] (by kernel_rfl) (aC1 (nF h0))⟩
 ·exact ⟨Out.ret,St.mk [(2,.bool true)] [],⟨rfl,_,rfl⟩,gA 0 [.is true] [2] [] (by kernel_rfl) (aC1 (nT h0))⟩
theorem k219 (a:Ar):∃rb,Sp 219 [a.av] [] (.bool rb) []:=by
 obtain ⟨e,t,⟨rfl,rb,rfl⟩,h⟩:=b219 a
 exact ⟨rb,sP Tryz.f219 (by first|rfl|simp [noIdsL,noIds]) h (.inr rfl)⟩
abbrev Z200:Nat×AV:=(0,.seq (l.map Ar.av) false)
abbrev Z201:Nat×AV:=(7,.int .i64 ((l.map Ar.av).length:Nat))
abbrev Z202 (i:Nat):Nat×AV:=(8,.int .i64 (i:Int))
theorem t260_0 (hsm:l.length≤9223372036854775807) (i:Nat) (hi:i<l.length):En 19 (loopOf Tryz.f260 0) ⟨[Z200 l,(1,.clo 219 [] []),Z201 l,Z202 i],[]⟩ (fun e t=>(e= .ret∧∃rn,t=⟨[(4,.int .i64 rn)],[]⟩)∨(e= .normal∧t=⟨[Z200 l,(1,.clo 219 [] []),Z201 l,(8,.int .i64 ((i+1:Nat):Int))],[]⟩)):=by
 obtain ⟨x0,hm0,hx0⟩:=elt_of Ar.av (l:=l) (n:=(↑i:Int)) (by omega) (by omega)
 obtain ⟨r1,hs2⟩:=k219 x0
 cases r1 with
 |true=>
  exact ⟨Out.ret,St.mk [(4,.int .i64 (i:Int))] [],.inl ⟨rfl,_,rfl⟩,gA 0 [.is true,.elt (.agg [.int .i8 x0.1,.str (Ar.t x0).1,.int .i8 (Ar.t x0).2,.int .i64 (Ar.t x0).3,.str (Ar.t x0).4]),.call (.bool true) [] []] [4] [] (by kernel_rfl) (aC3 (d1 Ar.av l i (by omega)) hx0 hs2)⟩
 |false=>
  exact gE (.inr ⟨rfl,rfl⟩) 0 [.is true,.elt (.agg [.int .i8 x0.1,.str (Ar.t x0).1,.int .i8 (Ar.t x0).2,.int .i64 (Ar.t x0).3,.str (Ar.t x0).4]),.call (.bool false) [] []] [0,1,7,8] [] (aC4 (d1 Ar.av l i (by omega)) hx0 hs2 (w1 i (by omega)))
theorem e260_0 (hsm:l.length≤9223372036854775807):En 19 (loopOf Tryz.f260 0) ⟨[Z200 l,(1,.clo 219 [] []),Z201 l,(8,.int .i64 ((l.length:Nat):Int))],[]⟩ (fun e t=>e= .exit 0∧t=⟨[],[]⟩):=by
 exact gE ⟨rfl,rfl⟩ 0 [.is false] [] [] (aC1 (show decide ((↑l.length:Int)<(↑(l.map Ar.av).length:Int))=false from by simp))
abbrev Z203:Nat×AV:=(8,.int .i64 0)
abbrev Z208:St:=⟨[Z200 l,(1,.clo 219 [] []),Z201 l,Z203],[]⟩
theorem l260_0 (hsm:l.length≤9223372036854775807):(∃rn,Lo 19 (loopOf Tryz.f260 0) (Z208 l) .ret ⟨[(4,.int .i64 rn)],[]⟩)∨Lo 19 (loopOf Tryz.f260 0) (Z208 l) (.exit 0) ⟨[],[]⟩:=by
 rcases range_ex (N:=l.length) (k:=0) (fun i=>⟨[Z200 l,(1,.clo 219 [] []),Z201 l,(8,.int .i64 (i:Int))],[]⟩) ⟨[],[]⟩ (fun t=>∃rn,t=⟨[(4,.int .i64 rn)],[]⟩) (fun i hi=>t260_0 l hsm i hi) (e260_0 l hsm) with ⟨s,h,hq⟩|h
 ·obtain ⟨rn,rfl⟩:=hq;exact .inl ⟨rn,h⟩
 ·exact .inr h
abbrev Z204 (l:List Ru):Nat×AV:=(0,.seq (l.map Ru.av) false)
abbrev Z205 (l:List Ru):Nat×AV:=(7,.int .i64 ((l.map Ru.av).length:Nat))
theorem t183_0 (l:List Ru) (hsm:l.length≤9223372036854775807) (i:Nat) (hi:i<l.length):En 19 (loopOf Tryz.f183 0) ⟨[Z204 l,(1,.clo 134 [] []),Z205 l,Z202 i],[]⟩ (fun e t=>(e= .ret∧∃rn,t=⟨[(4,.int .i64 rn)],[]⟩)∨(e= .normal∧t=⟨[Z204 l,(1,.clo 134 [] []),Z205 l,(8,.int .i64 ((i+1:Nat):Int))],[]⟩)):=by
 obtain ⟨x0,hm0,hx0⟩:=elt_of Ru.av (l:=l) (n:=(↑i:Int)) (by omega) (by omega)
 obtain ⟨r1,hs2⟩:=k134 x0.1 x0.2 x0.3
 cases r1 with
 |true=>
  exact ⟨Out.ret,St.mk [(4,.int .i64 (i:Int))] [],.inl ⟨rfl,_,rfl⟩,gA 0 [.is true,.elt (.agg [.str x0.1,.seq (List.map Ar.av x0.2) false,.seq (List.map Li.av x0.3) false]),.call (.bool true) [] []] [4] [] (by kernel_rfl) (aC3 (d1 Ru.av l i (by omega)) hx0 hs2)⟩
 |false=>
  exact gE (.inr ⟨rfl,rfl⟩) 0 [.is true,.elt (.agg [.str x0.1,.seq (List.map Ar.av x0.2) false,.seq (List.map Li.av x0.3) false]),.call (.bool false) [] []] [0,1,7,8] [] (aC4 (d1 Ru.av l i (by omega)) hx0 hs2 (w1 i (by omega)))
theorem e183_0 (l:List Ru) (hsm:l.length≤9223372036854775807):En 19 (loopOf Tryz.f183 0) ⟨[Z204 l,(1,.clo 134 [] []),Z205 l,(8,.int .i64 ((l.length:Nat):Int))],[]⟩ (fun e t=>e= .exit 0∧t=⟨[],[]⟩):=by
 exact gE ⟨rfl,rfl⟩ 0 [.is false] [] [] (aC1 (show decide ((↑l.length:Int)<(↑(l.map Ru.av).length:Int))=false from by simp))
abbrev Z209 (l:List Ru):St:=⟨[Z204 l,(1,.clo 134 [] []),Z205 l,Z203],[]⟩
theorem l183_0 (l:List Ru) (hsm:l.length≤9223372036854775807):(∃rn,Lo 19 (loopOf Tryz.f183 0) (Z209 l) .ret ⟨[(4,.int .i64 rn)],[]⟩)∨Lo 19 (loopOf Tryz.f183 0) (Z209 l) (.exit 0) ⟨[],[]⟩:=by
 rcases range_ex (N:=l.length) (k:=0) (fun i=>⟨[Z204 l,(1,.clo 134 [] []),Z205 l,(8,.int .i64 (i:Int))],[]⟩) ⟨[],[]⟩ (fun t=>∃rn,t=⟨[(4,.int .i64 rn)],[]⟩) (fun i hi=>t183_0 l hsm i hi) (e183_0 l hsm) with ⟨s,h,hq⟩|h
 ·obtain ⟨rn,rfl⟩:=hq;exact .inl ⟨rn,h⟩
 ·exact .inr h
abbrev Z20a:St:=⟨[Z200 l,(1,.clo 219 [] [])],[]⟩
theorem b260 (hsm:List.length (l.map Ar.av)≤9223372036854775807):En 19 (bodyOf Tryz.f260) (Z20a l) (fun e t=>e= .ret∧∃rn,t=⟨[(4,.int .i64 rn)],[]⟩):=by
 rcases l260_0 (l) (by simp at*;omega) with o0|o0
 ·obtain ⟨y1,hl2⟩:=o0
  exact ⟨Out.ret,St.mk [(4,.int .i64 y1)] [],⟨rfl,_,rfl⟩,gA 0 [.cut [0,1,7,8] [],.sum .ret [(4,.int .i64 y1)] []] [4] [] (by kernel_rfl) (aC1 hl2)⟩
 ·have hl1:=o0
  exact ⟨Out.ret,St.mk [(4,.int .i64 (-1))] [],⟨rfl,_,rfl⟩,gA 0 [.cut [0,1,7,8] [],.sum (.exit 0) [] []] [4] [] (by kernel_rfl) (aC1 hl1)⟩
theorem k260:∃rn,Sp 260 [.seq (l.map Ar.av) false,.clo 219 [] []] [] (.int .i64 rn) []:=by
 refine ex_small (R:=fun rn=> .int .i64 rn) (upd:=fun _=>[]) (l.map Ar.av) ⟨_,by simp,false,.inl rfl⟩ fun hsm=> ?_
 obtain ⟨e,t,⟨rfl,rn,rfl⟩,h⟩:=b260 l (Nat.le_trans hsm (by simp [maxLen]))
 exact ⟨rn,sP Tryz.f260 (by first|rfl|simp [noIdsL,noIds]) h (.inr rfl)⟩
theorem b183 (l:List Ru) (hsm:List.length (l.map Ru.av)≤9223372036854775807):En 19 (bodyOf Tryz.f183) ⟨[Z204 l,(1,.clo 134 [] [])],[]⟩ (fun e t=>e= .ret∧∃rn,t=⟨[(4,.int .i64 rn)],[]⟩):=by
 rcases l183_0 (l) (by simp at*;omega) with o0|o0
 ·obtain ⟨y1,hl2⟩:=o0
  exact ⟨Out.ret,St.mk [(4,.int .i64 y1)] [],⟨rfl,_,rfl⟩,gA 0 [.cut [0,1,7,8] [],.sum .ret [(4,.int .i64 y1)] []] [4] [] (by kernel_rfl) (aC1 hl2)⟩
 ·have hl1:=o0
  exact ⟨Out.ret,St.mk [(4,.int .i64 (-1))] [],⟨rfl,_,rfl⟩,gA 0 [.cut [0,1,7,8] [],.sum (.exit 0) [] []] [4] [] (by kernel_rfl) (aC1 hl1)⟩
theorem k183 (l:List Ru):∃rn,Sp 183 [.seq (l.map Ru.av) false,.clo 134 [] []] [] (.int .i64 rn) []:=by
 refine ex_small (R:=fun rn=> .int .i64 rn) (upd:=fun _=>[]) (l.map Ru.av) ⟨_,by simp,false,.inl rfl⟩ fun hsm=> ?_
 obtain ⟨e,t,⟨rfl,rn,rfl⟩,h⟩:=b183 l (Nat.le_trans hsm (by simp [maxLen]))
 exact ⟨rn,sP Tryz.f183 (by first|rfl|simp [noIdsL,noIds]) h (.inr rfl)⟩
abbrev Z206:Nat×AV:=(4,.bool true)
abbrev Z207:Nat×AV:=(4,.bool false)
theorem b218:En 9 (bodyOf Tryz.f218) (Z20a l) (fun e t=>e= .ret∧∃rb,t=⟨[(4,.bool rb)],[]⟩):=by
 obtain ⟨r0,hs1⟩:=k260 l
 rcases bft (decide (0≤r0)) with h2|h2
 ·exact ⟨Out.ret,St.mk [Z206] [],⟨rfl,_,rfl⟩,gA 0 [.call (.int .i64 r0) [] [],.is true] [4] [] (by kernel_rfl) (aC2 hs1 h2)⟩
 ·exact ⟨Out.ret,St.mk [Z207] [],⟨rfl,_,rfl⟩,gA 0 [.call (.int .i64 r0) [] [],.is false] [4] [] (by kernel_rfl) (aC2 hs1 h2)⟩
theorem k218:∃rb,Sp 218 [.seq (l.map Ar.av) false,.clo 219 [] []] [] (.bool rb) []:=by
 obtain ⟨e,t,⟨rfl,rb,rfl⟩,h⟩:=b218 l
 exact ⟨rb,sP Tryz.f218 (by first|rfl|simp [noIdsL,noIds]) h (.inr rfl)⟩
theorem b133 (l:List Ru):En 9 (bodyOf Tryz.f133) ⟨[Z204 l,(1,.clo 134 [] [])],[]⟩ (fun e t=>e= .ret∧∃rb,t=⟨[(4,.bool rb)],[]⟩):=by
 obtain ⟨r0,hs1⟩:=k183 l
 rcases bft (decide (0≤r0)) with h2|h2
 ·exact ⟨Out.ret,St.mk [Z206] [],⟨rfl,_,rfl⟩,gA 0 [.call (.int .i64 r0) [] [],.is true] [4] [] (by kernel_rfl) (aC2 hs1 h2)⟩
 ·exact ⟨Out.ret,St.mk [Z207] [],⟨rfl,_,rfl⟩,gA 0 [.call (.int .i64 r0) [] [],.is false] [4] [] (by kernel_rfl) (aC2 hs1 h2)⟩
theorem k133 (l:List Ru):∃rb,Sp 133 [.seq (l.map Ru.av) false,.clo 134 [] []] [] (.bool rb) []:=by
 obtain ⟨e,t,⟨rfl,rb,rfl⟩,h⟩:=b133 l
 exact ⟨rb,sP Tryz.f133 (by first|rfl|simp [noIdsL,noIds]) h (.inr rfl)⟩
theorem b132:En 18 (bodyOf Tryz.f132) ⟨[(0,.str a),(1,.str b)],[]⟩ (fun e t=>e= .ret∧∃rb:Bool,t=⟨[(4,.bool rb)],[]⟩∧(rb=false→a.size<b.size∨a.extract 0 b.size≠b)):=by
 rcases bft (decide ((↑(ByteArray.size b):Int)≤(↑(ByteArray.size a):Int))) with h0|h0
 ·rcases bft (decide (ByteArray.extract a 0 (Int.toNat (↑(ByteArray.size b):Int))=b)) with h1|h1
  ·exact ⟨Out.ret,St.mk [Z206] [],⟨rfl,_,rfl,by first|(intro h;cases h;done)|(intro _;left;simp at*;omega)|(intro _;right;simp_all;done)⟩,gA 0 [.is true,.is true] [4] [] (by kernel_rfl) (aC3 h0 (show 0≤(↑(ByteArray.size b):Int)∧(↑(ByteArray.size b):Int)≤(↑(ByteArray.size a):Int) from by simp at*;omega) h1)⟩
  ·exact ⟨Out.ret,St.mk [Z207] [],⟨rfl,_,rfl,by first|(intro h;cases h;done)|(intro _;left;simp at*;omega)|(intro _;right;simp_all;done)⟩,gA 0 [.is true,.is false] [4] [] (by kernel_rfl) (aC3 h0 (show 0≤(↑(ByteArray.size b):Int)∧(↑(ByteArray.size b):Int)≤(↑(ByteArray.size a):Int) from by simp at*;omega) h1)⟩
 ·exact ⟨Out.ret,St.mk [Z207] [],⟨rfl,_,rfl,by first|(intro h;cases h;done)|(intro _;left;simp at*;omega)|(intro _;right;simp_all;done)⟩,gA 0 [.is false] [4] [] (by kernel_rfl) (aC1 h0)⟩
theorem b184 (p:ByteArray) (hd:List Ar) (bd:List Li):En 6 (bodyOf Tryz.f184) ⟨[(0,.agg [.str p,.seq (hd.map Ar.av) false,.seq (bd.map Li.av) false])],[]⟩ (fun e t=>e= .ret∧∃rb,t=⟨[(2,.bool rb)],[]⟩):=by
 obtain ⟨r0,hs1⟩:=k218 hd
 cases r0 with
 |true=>
  exact ⟨Out.ret,St.mk [(2,.bool true)] [],⟨rfl,_,rfl⟩,gA 0 [.call (.bool true) [] []] [2] [] (by kernel_rfl) (aC1 hs1)⟩
 |false=>
  exact ⟨Out.ret,St.mk [(2,.bool false)] [],⟨rfl,_,rfl⟩,gA 0 [.call (.bool false) [] []] [2] [] (by kernel_rfl) (aC1 hs1)⟩
theorem k184 (p:ByteArray) (hd:List Ar) (bd:List Li):∃rb,Sp 184 [.agg [.str p,.seq (hd.map Ar.av) false,.seq (bd.map Li.av) false]] [] (.bool rb) []:=by
 obtain ⟨e,t,⟨rfl,rb,rfl⟩,h⟩:=b184 p hd bd
 exact ⟨rb,sP Tryz.f184 (by first|rfl|simp [noIdsL,noIds]) h (.inr rfl)⟩
theorem k132:∃rb:Bool,Sp 132 [.str a,.str b] [] (.bool rb) []∧(rb=false→a.size<b.size∨a.extract 0 b.size≠b):=by
 obtain ⟨e,t,⟨rfl,rn,rfl,hp⟩,h⟩:=b132 a b
 exact ⟨rn,sQ Tryz.f132 h,hp⟩
theorem b79:En 8 (bodyOf Tryz.f79) ⟨[(0,.str a),(1,.str b)],[]⟩ (fun e t=>e= .ret∧∃rb:Bool,t=⟨[(4,.bool rb)],[]⟩∧(rb=false→a.size<b.size∨a.extract 0 b.size≠b)):=by
 obtain ⟨r0,⟨hs1,hs1'⟩⟩:=k132 a b
 cases r0 with
 |true=>
  exact ⟨Out.ret,St.mk [Z206] [],⟨rfl,_,rfl,by assumption⟩,gA 0 [.call (.bool true) [] []] [4] [] (by kernel_rfl) (aC1 hs1)⟩
 |false=>
  exact ⟨Out.ret,St.mk [Z207] [],⟨rfl,_,rfl,by assumption⟩,gA 0 [.call (.bool false) [] []] [4] [] (by kernel_rfl) (aC1 hs1)⟩
theorem k79:∃rb:Bool,Sp 79 [.str a,.str b] [] (.bool rb) []∧(rb=false→a.size<b.size∨a.extract 0 b.size≠b):=by
 obtain ⟨e,t,⟨rfl,rn,rfl,hp⟩,h⟩:=b79 a b
 exact ⟨rn,sQ Tryz.f79 h,hp⟩
end
section
variable (x:AV) (l:List AV)
@[simp] theorem okE_tm (x:Tm):okE 4 x.av:=⟨rfl,by simp [Tm.av,AV.cells,solid]⟩
@[simp] theorem okE_ar (x:Ar):okE 5 x.av:=⟨rfl,by simp [Ar.av,AV.cells,solid]⟩
@[simp] theorem noIdsL_tms (l:List Tm):noIdsL (l.map Tm.av)=true:=noIdsL_of Tm.av noIds_tm l
@[simp] theorem noIdsL_ars (l:List Ar):noIdsL (l.map Ar.av)=true:=noIdsL_of Ar.av noIds_ar l
abbrev Z213:St:=⟨[(0,.nils)],[]⟩
abbrev Z214:St:=⟨[(2,.nils)],[]⟩
theorem c45n:En 8 (bodyOf Tryz.f45) Z213 (fun e t=>e= .ret∧t=Z214):=by
 exact gE ⟨rfl,rfl⟩ 0 [.is true] [2] [] (aC1 rT)
abbrev Z210:Nat×AV:=(2,.seq [] true)
abbrev Z215:St:=⟨[(0,.emp)],[]⟩
abbrev Z216:St:=⟨[Z210],[]⟩
theorem c45e:En 8 (bodyOf Tryz.f45) Z215 (fun e t=>e= .ret∧t=Z216):=by
 exact gE ⟨rfl,rfl⟩ 0 [.is false,.is false] [2] [] (aC2 rF (show True∧([]:List AV)=[] from by simp))
abbrev Z211:Nat×AV:=(0,.seq (x::l) false)
abbrev Z212:Nat×AV:=(2,.row 7 0 (0+List.length (x::l)))
abbrev Z217:St:=⟨[Z211 x l],[]⟩
abbrev Z218:List (Nat×AV):=[(2,.row 7 0 (x::l).length)]
theorem c45c (hok:∀z,z∈x::l→okE 4 z) (hno:noIdsL (x::l)=true) (hl:l.length<100000000):En 8 (bodyOf Tryz.f45) (Z217 x l) (fun e t=>e= .ret∧t=⟨(Z218 x l),[(7,.row 4 (x::l))]⟩):=by
 exact ⟨Out.ret,St.mk [Z212 x l] [(7,.row 4 (x::l))],⟨rfl,by simp⟩,gA 0 [.is false,.is true] [2] [K1 7] (by kernel_rfl) (aC3 rF (show True∧x::l≠[]∧(∀(e:AV),e∈x::l→okE 4 e)∧(∀(e:AV),e∈[]→okE 4 e)∧(↑(0+List.length (x::l)):Int)*48≤140737488355328∧0+List.length (x::l)≤9223372036854775807 from by refine ⟨by simp,by simp,by assumption,by simp,?_,?_⟩<;>(simp;omega)) hno)⟩
theorem c81n:En 8 (bodyOf Tryz.f81) Z213 (fun e t=>e= .ret∧t=Z214):=by
 exact gE ⟨rfl,rfl⟩ 0 [.is true] [2] [] (aC1 rT)
theorem c81e:En 8 (bodyOf Tryz.f81) Z215 (fun e t=>e= .ret∧t=Z216):=by
 exact gE ⟨rfl,rfl⟩ 0 [.is false,.is false] [2] [] (aC2 rF (show True∧([]:List AV)=[] from by simp))
theorem c81c (hok:∀z,z∈x::l→okE 5 z) (hno:noIdsL (x::l)=true) (hl:l.length<100000000):En 8 (bodyOf Tryz.f81) (Z217 x l) (fun e t=>e= .ret∧t=⟨(Z218 x l),[(7,.row 5 (x::l))]⟩):=by
 exact ⟨Out.ret,St.mk [Z212 x l] [(7,.row 5 (x::l))],⟨rfl,by simp⟩,gA 0 [.is false,.is true] [2] [K1 7] (by kernel_rfl) (aC3 rF (show True∧x::l≠[]∧(∀(e:AV),e∈x::l→okE 5 e)∧(∀(e:AV),e∈[]→okE 5 e)∧(↑(0+List.length (x::l)):Int)*56≤140737488355328∧0+List.length (x::l)≤9223372036854775807 from by refine ⟨by simp,by simp,by assumption,by simp,?_,?_⟩<;>(simp;omega)) hno)⟩
theorem c82n:En 8 (bodyOf Tryz.f82) Z213 (fun e t=>e= .ret∧t=Z214):=by
 exact gE ⟨rfl,rfl⟩ 0 [.is true] [2] [] (aC1 rT)
theorem c82e:En 8 (bodyOf Tryz.f82) Z215 (fun e t=>e= .ret∧t=Z216):=by
 exact gE ⟨rfl,rfl⟩ 0 [.is false,.is false] [2] [] (aC2 rF (show True∧([]:List AV)=[] from by simp))
theorem c82c (hok:∀z,z∈x::l→okE 16 z) (hno:noIdsL (x::l)=true) (hl:l.length<100000000):En 8 (bodyOf Tryz.f82) (Z217 x l) (fun e t=>e= .ret∧t=⟨(Z218 x l),[(7,.row 16 (x::l))]⟩):=by
 exact ⟨Out.ret,St.mk [Z212 x l] [(7,.row 16 (x::l))],⟨rfl,by simp⟩,gA 0 [.is false,.is true] [2] [K1 7] (by kernel_rfl) (aC3 rF (show True∧x::l≠[]∧(∀(e:AV),e∈x::l→okE 16 e)∧(∀(e:AV),e∈[]→okE 16 e)∧(↑(0+List.length (x::l)):Int)*216≤140737488355328∧0+List.length (x::l)≤9223372036854775807 from by refine ⟨by simp,by simp,by assumption,by simp,?_,?_⟩<;>(simp;omega)) hno)⟩
theorem c138n:En 8 (bodyOf Tryz.f138) Z213 (fun e t=>e= .ret∧t=Z214):=by
 exact gE ⟨rfl,rfl⟩ 0 [.is true] [2] [] (aC1 rT)
theorem c138e:En 8 (bodyOf Tryz.f138) Z215 (fun e t=>e= .ret∧t=Z216):=by
 exact gE ⟨rfl,rfl⟩ 0 [.is false,.is false] [2] [] (aC2 rF (show True∧([]:List AV)=[] from by simp))
theorem c138c (hok:∀z,z∈x::l→okE 1 z) (hno:noIdsL (x::l)=true) (hl:l.length<100000000):En 8 (bodyOf Tryz.f138) (Z217 x l) (fun e t=>e= .ret∧t=⟨(Z218 x l),[(7,.row 1 (x::l))]⟩):=by
 exact ⟨Out.ret,St.mk [Z212 x l] [(7,.row 1 (x::l))],⟨rfl,by simp⟩,gA 0 [.is false,.is true] [2] [K1 7] (by kernel_rfl) (aC3 rF (show True∧x::l≠[]∧(∀(e:AV),e∈x::l→okE 1 e)∧(∀(e:AV),e∈[]→okE 1 e)∧(↑(0+List.length (x::l)):Int)*16≤140737488355328∧0+List.length (x::l)≤9223372036854775807 from by refine ⟨by simp,by simp,by assumption,by simp,?_,?_⟩<;>(simp;omega)) hno)⟩
theorem k45 (l:List Tm) (hl:l.length<100000000):Sp 45 [.seq (l.map Tm.av) false] [] (.seq (l.map Tm.av) false) []:=by
 cases l with
 |nil=>
  refine Spec.split ?_ ?_
  ·obtain ⟨e,t,⟨rfl,rfl⟩,h⟩:=c45n
   exact Spec.wkR (sQ Tryz.f45 h) .nils
  ·obtain ⟨e,t,⟨rfl,rfl⟩,h⟩:=c45e
   exact Spec.wkR (sQ Tryz.f45 h) (.clip [] true)
 |cons x l=>
  obtain ⟨e,t,⟨rfl,rfl⟩,h⟩:=c45c (Tm.av x) (l.map Tm.av) (fun z hz=>by
   obtain ⟨y,_,rfl⟩:=List.mem_map.1 (show z∈(x::l).map Tm.av from hz)
   simp) (noIdsL_tms (x::l)) (by simp at hl;simp;omega)
  have h':=h.keepR [2] [(7,.freeze)] (st':=⟨[(2,.seq ((x::l).map Tm.av) false)],[]⟩) (cs:=[((x::l).map Tm.av).length=((x::l).map Tm.av).length,noIdsL ((x::l).map Tm.av)=true]) rfl ⟨rfl,noIdsL_tms _,trivial⟩
  exact sQ Tryz.f45 h'
theorem k81 (l:List Ar) (hl:l.length<100000000):Sp 81 [.seq (l.map Ar.av) false] [] (.seq (l.map Ar.av) false) []:=by
 cases l with
 |nil=>
  refine Spec.split ?_ ?_
  ·obtain ⟨e,t,⟨rfl,rfl⟩,h⟩:=c81n
   exact Spec.wkR (sQ Tryz.f81 h) .nils
  ·obtain ⟨e,t,⟨rfl,rfl⟩,h⟩:=c81e
   exact Spec.wkR (sQ Tryz.f81 h) (.clip [] true)
 |cons x l=>
  obtain ⟨e,t,⟨rfl,rfl⟩,h⟩:=c81c (Ar.av x) (l.map Ar.av) (fun z hz=>by
   obtain ⟨y,_,rfl⟩:=List.mem_map.1 (show z∈(x::l).map Ar.av from hz)
   simp) (noIdsL_ars (x::l)) (by simp at hl;simp;omega)
  have h':=h.keepR [2] [(7,.freeze)] (st':=⟨[(2,.seq ((x::l).map Ar.av) false)],[]⟩) (cs:=[((x::l).map Ar.av).length=((x::l).map Ar.av).length,noIdsL ((x::l).map Ar.av)=true]) rfl ⟨rfl,noIdsL_ars _,trivial⟩
  exact sQ Tryz.f81 h'
theorem k82 (l:List Li) (hl:l.length<100000000):Sp 82 [.seq (l.map Li.av) false] [] (.seq (l.map Li.av) false) []:=by
 cases l with
 |nil=>
  refine Spec.split ?_ ?_
  ·obtain ⟨e,t,⟨rfl,rfl⟩,h⟩:=c82n
   exact Spec.wkR (sQ Tryz.f82 h) .nils
  ·obtain ⟨e,t,⟨rfl,rfl⟩,h⟩:=c82e
   exact Spec.wkR (sQ Tryz.f82 h) (.clip [] true)
 |cons x l=>
  obtain ⟨e,t,⟨rfl,rfl⟩,h⟩:=c82c (Li.av x) (l.map Li.av) (fun z hz=>by
   obtain ⟨y,_,rfl⟩:=List.mem_map.1 (show z∈(x::l).map Li.av from hz)
   simp) (noIdsL_lis (x::l)) (by simp at hl;simp;omega)
  have h':=h.keepR [2] [(7,.freeze)] (st':=⟨[(2,.seq ((x::l).map Li.av) false)],[]⟩) (cs:=[((x::l).map Li.av).length=((x::l).map Li.av).length,noIdsL ((x::l).map Li.av)=true]) rfl ⟨rfl,noIdsL_lis _,trivial⟩
  exact sQ Tryz.f82 h'
theorem k138 (l:List ByteArray) (hl:l.length<100000000):Sp 138 [.seq (l.map AV.str) false] [] (.seq (l.map AV.str) false) []:=by
 cases l with
 |nil=>
  refine Spec.split ?_ ?_
  ·obtain ⟨e,t,⟨rfl,rfl⟩,h⟩:=c138n
   exact Spec.wkR (sQ Tryz.f138 h) .nils
  ·obtain ⟨e,t,⟨rfl,rfl⟩,h⟩:=c138e
   exact Spec.wkR (sQ Tryz.f138 h) (.clip [] true)
 |cons x l=>
  obtain ⟨e,t,⟨rfl,rfl⟩,h⟩:=c138c (AV.str x) (l.map AV.str) (fun z hz=>by
   obtain ⟨y,_,rfl⟩:=List.mem_map.1 (show z∈(x::l).map AV.str from hz)
   simp) (noIdsL_strs (x::l)) (by simp at hl;simp;omega)
  have h':=h.keepR [2] [(7,.freeze)] (st':=⟨[(2,.seq ((x::l).map AV.str) false)],[]⟩) (cs:=[((x::l).map AV.str).length=((x::l).map AV.str).length,noIdsL ((x::l).map AV.str)=true]) rfl ⟨rfl,noIdsL_strs _,trivial⟩
  exact sQ Tryz.f138 h'
end
section
variable (x:Ex)
theorem c188n:En 8 (bodyOf Tryz.f188) ⟨[(0,.nils)],[]⟩ (fun e t=>e= .ret∧t=⟨[(2,.nils)],[]⟩):=by
 exact gE ⟨rfl,rfl⟩ 0 [.is true] [2] [] (aC1 rT)
theorem c188e:En 8 (bodyOf Tryz.f188) ⟨[(0,.emp)],[]⟩ (fun e t=>e= .ret∧t=⟨[(2,.seq [] true)],[]⟩):=by
 exact gE ⟨rfl,rfl⟩ 0 [.is false,.is false] [2] [] (aC2 rF (show True∧([]:List AV)=[] from by simp))
theorem c188c (x:AV) (l:List AV) (hok:∀z,z∈x::l→okE 6 z) (hno:noIdsL (x::l)=true) (hl:l.length<100000000):En 8 (bodyOf Tryz.f188) ⟨[(0,.seq (x::l) false)],[]⟩ (fun e t=>e= .ret∧t=⟨[(2,.row 45007 0 (x::l).length)],[(45007,.row 6 (x::l))]⟩):=by
 exact ⟨Out.ret,St.mk [(2,.row 45007 0 (0+List.length (x::l)))] [(45007,.row 6 (x::l))],⟨rfl,by simp⟩,gA 45000 [.is false,.is true] [2] [K1 45007] (by kernel_rfl) (aC3 rF (show True∧x::l≠[]∧(∀(e:AV),e∈x::l→okE 6 e)∧(∀(e:AV),e∈[]→okE 6 e)∧(↑(0+List.length (x::l)):Int)*80≤140737488355328∧0+List.length (x::l)≤9223372036854775807 from by refine ⟨by simp,by simp,by assumption,by simp,?_,?_⟩<;>(simp;omega)) hno)⟩
@[simp] theorem okE_ex (x:Ex):okE 6 x.av:=by rw [Ex.av_eq];exact ⟨rfl,by simp [Ex.cells,exC,AV.cells,solid]⟩
@[simp] theorem noIdsL_exs (l:List Ex):noIdsL (l.map Ex.av)=true:=noIdsL_of Ex.av noIds_ex l
theorem k188n:Sp 188 [.seq [] false] [] (.seq [] false) []:=by
 refine Spec.split ?_ ?_
 ·obtain ⟨e,t,⟨rfl,rfl⟩,h⟩:=c188n
  exact Spec.wkR (sQ Tryz.f188 h) .nils
 ·obtain ⟨e,t,⟨rfl,rfl⟩,h⟩:=c188e
  exact Spec.wkR (sQ Tryz.f188 h) (.clip [] true)
theorem k188c (l:List Ex) (hne:l≠[]) (hl:l.length<100000000):Sp 188 [.seq (l.map Ex.av) false] [] (.row 45007 0 (l.map Ex.av).length) [(45007,.row 6 (l.map Ex.av))]:=by
 cases l with
 |nil=>exact absurd rfl hne
 |cons x l=>
  obtain ⟨e,t,⟨rfl,rfl⟩,h⟩:=c188c (Ex.av x) (l.map Ex.av) (fun z hz=>by
   obtain ⟨y,_,rfl⟩:=List.mem_map.1 (show z∈(x::l).map Ex.av from hz)
   simp) (noIdsL_exs (x::l)) (by simp at hl;simp;omega)
  exact Spec.newP (st':=⟨[(2,.row 45007 0 ((x::l).map Ex.av).length)],[(45007,.row 6 ((x::l).map Ex.av))]⟩) (fn:=Tryz.f188) (c:=bodyOf Tryz.f188) (by kernel_rfl) (by kernel_rfl) rfl rfl h.p (.inr rfl) (by kernel_rfl)
abbrev Z220:Nat×AV:=(1,.elt 1 0 0)
abbrev Z221:Nat×AV:=(2,.elt 2 0 0)
abbrev Z222:Nat×AV:=(10,.int .i64 ((x.kids.map Ex.av).length:Nat))
abbrev Z223:Nat×Ob:=(1,.var [.int .i8 x.op,.str x.t.v,.int .i8 x.t.k,.int .i64 x.t.n,.str x.t.s,.row 45007 0 (x.kids.map Ex.av).length])
abbrev Z224:Nat×Ob:=(2,.var [.int .i8 0,.str ⟨#[]⟩,.int .i8 0,.int .i64 0,.str ⟨#[]⟩,.nils])
abbrev Z225:Nat×Ob:=(45007,.row 6 (x.kids.map Ex.av))
abbrev Z226:Nat×Ob:=(2,.var [.int .i8 0,.str (ByteArray.mk #[]),.int .i8 0,.int .i64 0,.str (ByteArray.mk #[]),.nils])
abbrev Z229 (i:Nat):St:=⟨[Z220,Z221,Z222 x,(11,.int .i64 (i:Int))],[Z223 x,Z224,Z225 x]⟩
theorem t141 (i:Nat) (y:Ex) (hi:i<x.kids.length) (hk:x.kids.length<100000000) (hx:(x.kids.map Ex.av)[0+Int.toNat (i:Int)]? =some (.agg y.cells)) (hns:noIdsL ((x.kids.map Ex.av).set (0+Int.toNat (i:Int)) (.agg y.cells))=true) (k141:Sp 141 [.agg y.cells] [] (.agg y.cells) []):EN 26 (loopOf Tryz.f141 0) (Z229 x i) ⟨[Z220,Z221,Z222 x,(11,.int .i64 ((i+1:Nat):Int))],[Z223 x,Z224,(45007,.row 6 ((x.kids.map Ex.av).set i (.agg y.cells)))]⟩:=by
 have hs0:=k141
 exact ⟨Out.normal,St.mk [Z220,Z221,(10,.int .i64 (↑(List.length (List.map Ex.av (Ex.kids x))):Int)),(11,.int .i64 ((i:Int)+1))] [(1,.var [.int .i8 (Ex.op x),.str (Ex.t x).1,.int .i8 (Ex.t x).2,.int .i64 (Ex.t x).3,.str (Ex.t x).4,.row 45007 0 (List.length (List.map Ex.av (Ex.kids x)))]),Z226,(45007,.row 6 (List.set (List.map Ex.av (Ex.kids x)) (0+Int.toNat (i:Int)) (.agg [.int .i8 (Ex.op y),.str (Ex.t y).1,.int .i8 (Ex.t y).2,.int .i64 (Ex.t y).3,.str (Ex.t y).4,.seq (List.map Ex.av (Ex.kids y)) false])))],⟨rfl,by simp [Ex.cells,exC]⟩,gA 0 [.is true,.elt (.agg (Ex.cells y)),.call (.agg y.cells) [] []] [1,2,10,11] [K0 1,K1 2,K1 45007] (by kernel_rfl) (aC9 (show decide ((i:Int)<(↑(List.length (x.kids.map Ex.av)):Int))=true from by simp;omega) (show 0≤(i:Int)∧(i:Int)<(↑(List.length (x.kids.map Ex.av)):Int) from by simp;omega) hx hs0 (show 0≤(i:Int)∧(i:Int)<(↑(List.length (x.kids.map Ex.av)):Int) from by simp;omega) (show 0+Int.toNat (i:Int)<List.length (x.kids.map Ex.av) from by simp;omega) (w1 i (by omega)) rT hns)⟩
theorem zshoct (x:Ex):noIdsL (x.kids.map Ex.av)=true:=by simp
abbrev Z22a:St:=⟨[Z220,Z221],[Z223 x,Z224,Z225 x]⟩
theorem e141:En 26 (loopOf Tryz.f141 0) ⟨[Z220,Z221,Z222 x,(11,.int .i64 ((x.kids.length:Nat):Int))],[Z223 x,Z224,Z225 x]⟩ (fun e t=>e= .exit 0∧t=(Z22a x)):=by
 exact gE ⟨rfl,rfl⟩ 0 [.is false] [1,2] [K0 1,K1 2,K1 45007] (aC3 (zsq7nn x) rT (zshoct x))
abbrev Z227:Nat×AV:=(11,.int .i64 0)
abbrev Z228:Nat×Ob:=(1,.var [.int .i8 x.op,.str x.t.v,.int .i8 x.t.k,.int .i64 x.t.n,.str x.t.s,.seq [] false])
abbrev Z22b:St:=⟨[Z220,Z221,(10,.int .i64 0),Z227],[Z228 x,Z224]⟩
abbrev Z22c:St:=⟨[Z220,Z221],[Z228 x,Z224]⟩
theorem z141:En 26 (loopOf Tryz.f141 0) (Z22b x) (fun e t=>e= .exit 0∧t=(Z22c x)):=by
 exact gE ⟨rfl,rfl⟩ 0 [.is false] [1,2] [K1 1,K1 2] (aC3 rF rT rT)
abbrev Z22d:St:=⟨[Z220,Z221,Z222 x,Z227],[Z223 x,Z224,Z225 x]⟩
theorem l141_0 (hk:x.kids.length<100000000) (k141:∀y,y∈x.kids→Sp 141 [.agg y.cells] [] (.agg y.cells) []):Lo 26 (loopOf Tryz.f141 0) (Z22d x) (.exit 0) (Z22a x):=by
 have h:=Loops.from (P:=Tryz.prog) (n:=26) (c:=loopOf Tryz.f141 0) (e:= .exit 0) (st':=(Z22a x)) (st:=fun i=>⟨[Z220,Z221,Z222 x,(11,.int .i64 (i:Int))],[Z223 x,Z224,Z225 x]⟩) (N:=x.kids.length) ?_ ?_
 ·exact h
 ·intro i hi
  have hx:x.kids[i]? =some x.kids[i]:=List.getElem?_eq_getElem hi
  have hx':(x.kids.map Ex.av)[0+Int.toNat (i:Int)]? =some (.agg (x.kids[i]).cells):=by rw [Nat.zero_add,←Ex.av_eq];exact get_of Ex.av hx
  have hset:(x.kids.map Ex.av).set i (.agg (x.kids[i]).cells)=(x.kids.map Ex.av):=by
   rw [←Ex.av_eq]
   have:(x.kids.map Ex.av)[i]? =some (x.kids[i]).av:=by rw [List.getElem?_map,hx];rfl
   apply List.ext_getElem?
   intro j
   rw [List.getElem?_set]
   split
   ·rename_i hij;subst hij;split
    ·exact this.symm
    ·rename_i hlt;rw [List.getElem?_eq_none (by omega)]
   ·rfl
  obtain ⟨e,t,⟨rfl,rfl⟩,h⟩:=t141 x i x.kids[i] hi hk hx' (by rw [Nat.zero_add,Int.toNat_natCast,hset];exact noIdsL_exs _) (k141 _ (List.getElem_mem hi))
  rw [hset] at h
  exact h
 ·obtain ⟨e,t,⟨rfl,rfl⟩,h⟩:=e141 x
  exact .leave h (by simp)
theorem b141z (hz:x.kids=[]) (k188:Sp 188 [.seq [] false] [] (.seq [] false) []) (l141_0q:Lo 26 (loopOf Tryz.f141 0) (Z22b x) (.exit 0) (Z22c x)):En 26 (bodyOf Tryz.f141) ⟨[(0,.agg [.int .i8 x.op,.str x.t.v,.int .i8 x.t.k,.int .i64 x.t.n,.str x.t.s,.seq [] false])],[]⟩ (fun e t=>e= .ret∧t=⟨[Z221],[(2,.var [.int .i8 x.op,.str x.t.v,.int .i8 x.t.k,.int .i64 x.t.n,.str x.t.s,.seq [] false])]⟩):=by
 have hs0:=k188
 have hl1:=l141_0q
 exact gE ⟨rfl,rfl⟩ 0 [.call (.seq [] false) [] [],.cut [1,2,10,11] [K1 1,K1 2],.sum (.exit 0) [Z220,Z221] [(1,.var [.int .i8 (Ex.op x),.str (Tm.v (Ex.t x)),.int .i8 (Tm.k (Ex.t x)),.int .i64 (Tm.n (Ex.t x)),.str (Tm.s (Ex.t x)),.seq [] false]),Z226]] [2] [K1 2] (aC5 hs0 rT rT hl1 rT)
theorem b141c (k188:Sp 188 [.seq (x.kids.map Ex.av) false] [] (.row 45007 0 (x.kids.map Ex.av).length) [Z225 x]) (l141_0q:Lo 26 (loopOf Tryz.f141 0) (Z22d x) (.exit 0) (Z22a x)):En 26 (bodyOf Tryz.f141) ⟨[(0,.agg x.cells)],[]⟩ (fun e t=>e= .ret∧t=⟨[Z221],[(2,.var x.cells)]⟩):=by
 have hs0:=k188
 have hl1:=l141_0q
 exact gE ⟨rfl,rfl⟩ 0 [.call (.row 45007 0 (List.length (x.kids.map Ex.av))) [] [Z225 x],.cut [1,2,10,11] [K0 1,K1 2,K1 45007],.sum (.exit 0) [Z220,Z221] [(1,.var [.int .i8 (Ex.op x),.str (Tm.v (Ex.t x)),.int .i8 (Tm.k (Ex.t x)),.int .i64 (Tm.n (Ex.t x)),.str (Tm.s (Ex.t x)),.row 45007 0 (x.kids.map Ex.av).length]),Z226,Z225 x]] [2] [K0 2,(45007,.freeze)] (aC6 hs0 rT (zshoct x) hl1 (show List.length (x.kids.map Ex.av)=List.length (x.kids.map Ex.av) from rfl) (zshoct x))
end
abbrev Z230 (x:Ex):St:=⟨[(2,.elt 2 0 0)],[(2,.var x.cells)]⟩
theorem k141i (x:Ex) (hk:x.kids.length<100000000) (ih:∀y,y∈x.kids→Sp 141 [.agg y.cells] [] (.agg y.cells) []):Sp 141 [.agg x.cells] [] (.agg x.cells) []:=by
 by_cases hz:x.kids=[]
 ·have e:x.cells=[.int .i8 x.op,.str x.t.v,.int .i8 x.t.k,.int .i64 x.t.n,.str x.t.s,.seq [] false]:=by simp [Ex.cells,exC,hz]
  rw [e]
  obtain ⟨e,s,⟨rfl,rfl⟩,h0⟩:=z141 x
  obtain ⟨e,s,⟨rfl,rfl⟩,h⟩:=b141z x hz k188n (.leave h0 (by simp))
  exact sQ Tryz.f141 h
 ·obtain ⟨e,s,⟨rfl,rfl⟩,h⟩:=b141c x (k188c x.kids hz hk) (l141_0 x hk ih)
  exact Spec.pure (st':=(Z230 x)) (fn:=Tryz.f141) (c:=bodyOf Tryz.f141) (by kernel_rfl) (by kernel_rfl) rfl h (.inr rfl) (by kernel_rfl) rfl
mutual
theorem k141:∀(x:Ex),x.terms.length<100000000→Sp 141 [.agg x.cells] [] (.agg x.cells) []
 | .mk o t ks,hB=>by
   have hB':(t::Ex.termsL ks).length<100000000:=hB
   have hk:=Ex.termsL_len ks
   simp only [List.length_cons] at hB'
   exact k141i (.mk o t ks) (by show ks.length<_;omega) (fun y hy=>k141s ks (by omega) y hy)
theorem k141s:∀(l:List Ex),(Ex.termsL l).length<100000000→∀(y:Ex),y∈l→Sp 141 [.agg y.cells] [] (.agg y.cells) []
 |[],_,y,hy=>by simp at hy
 |x::r,hl,y,hy=>by
  simp only [Ex.termsL,List.length_append] at hl
  rcases List.mem_cons.1 hy with e|e
  ·rw [e];exact k141 x (by omega)
  ·exact k141s r (by omega) y e
end
theorem b84 (x:Li) (h0:x.ts.length<100000000) (h1:x.l.terms.length<100000000) (h2:x.r.terms.length<100000000):En 18 (bodyOf Tryz.f84) ⟨[(0,x.av)],[]⟩ (fun e t=>e= .ret∧t=⟨[(2,.elt 2 0 0)],[(2,.var x.cells)]⟩):=by
 have hs0:=k45 x.3 (by assumption)
 have hs1:=k141 (Li.l x) (by assumption)
 have hs2:=k141 (Li.r x) (by assumption)
 exact gE ⟨rfl,rfl⟩ 0 [.call (.seq (List.map Tm.av x.3) false) [] [],.call (.agg [.int .i8 (Ex.op (Li.l x)),.str (Ex.t (Li.l x)).1,.int .i8 (Ex.t (Li.l x)).2,.int .i64 (Ex.t (Li.l x)).3,.str (Ex.t (Li.l x)).4,.seq (List.map Ex.av (Ex.kids (Li.l x))) false]) [] [],.call (.agg [.int .i8 (Ex.op (Li.r x)),.str (Ex.t (Li.r x)).1,.int .i8 (Ex.t (Li.r x)).2,.int .i64 (Ex.t (Li.r x)).3,.str (Ex.t (Li.r x)).4,.seq (List.map Ex.av (Ex.kids (Li.r x))) false]) [] []] [2] [K1 2] (aC4 hs0 hs1 hs2 rT)
theorem k84 (x:Li) (hB:x.terms.length<100000000):Sp 84 [x.av] [] x.av []:=by
 unfold Li.terms at hB
 simp only [List.length_append] at hB
 obtain ⟨e,s,⟨rfl,rfl⟩,h⟩:=b84 x (by omega) (by omega) (by omega)
 exact Spec.pure (st':=⟨[(2,.elt 2 0 0)],[(2,.var x.cells)]⟩) (fn:=Tryz.f84) (c:=bodyOf Tryz.f84) (by kernel_rfl) (by kernel_rfl) (by simp [noIdsL,noIds_li]) h (.inr rfl) (by kernel_rfl) (noIds_li x)
end Go.Ped
namespace Go.Ped
open Go.RowKit
section
def kIn (L:List (Nat×Nat×Ob)):List (Nat×Rn):=L.map fun x=>(x.2.1,.keep x.1)
def kOut (N:List (Nat×Nat)):List (Nat×Rn):=N.map fun x=>(x.1,.keep x.2)
def numO (N:List (Nat×Nat)) (i:Nat):Nat:=(look N i).getD 0
def uniqF (N:List (Nat×Nat)):Bool:=match N with
 |[]=>true
 |x::r=>r.all (fun y=> !Nat.beq y.1 x.1&& !Nat.beq y.2 x.2)&&uniqF r
def renOK (L:List (Nat×Nat×Ob)) (N:List (Nat×Nat)) (upd:List (Nat×Ob)):Bool:=
 uniqF N&&uniqK upd&&uniqK (L.map fun x=>(x.1,Ob.dead))&&L.all (fun x=>Nat.ble given x.1&& !isDeadOb x.2.2&&(look upd x.1).isSome&&(match look N x.1 with
  |some j=>Nat.beq j x.2.1
  |none=>false))&&upd.all (fun x=>(look N x.1).isSome)&&(upd.all (fun x=>Nat.blt x.1 mid||Nat.ble mid (numO N x.1))||L.all (fun x=>Nat.blt x.2.1 mid))
mutual
theorem renC_keep {ρ:List (Nat×Rn)} (hk:∀id x,look ρ id=some x→∃j,x= .keep j):∀(x:AV),renC ρ x=[]
 | .agg cs=>renCL_keep hk cs
 | .tup cs=>renCL_keep hk cs
 | .clo f a b=>by simp only [renC];rw [renCL_keep hk a,renCL_keep hk b];rfl
 | .iface t v=>renC_keep hk v
 | .row id off len=>by
   simp only [renC]
   cases h:look ρ id with
   |none=>rfl
   |some x=>obtain ⟨j,e⟩:=hk id x h;subst e;rfl
 | .elt _ _ _=>rfl
 | .map _=>rfl
 | .int _ _=>rfl
 | .bool _=>rfl
 | .str _=>rfl
 | .seq _ _=>rfl
 | .tptr _=>rfl
 | .nilp=>rfl
 | .tmap _ _=>rfl
 | .nilmap=>rfl
 | .nils=>rfl
 | .nilf=>rfl
 | .nili=>rfl
 | .own _ _=>rfl
 | .emp=>rfl
 | .dead=>rfl
theorem renCL_keep {ρ:List (Nat×Rn)} (hk:∀id x,look ρ id=some x→∃j,x= .keep j):∀(l:List AV),renCL ρ l=[]
 |[]=>rfl
 |x::r=>by simp only [renCL];rw [renC_keep hk x,renCL_keep hk r];rfl
end
theorem obC_keep {ρ:List (Nat×Rn)} (hk:∀id x,look ρ id=some x→∃j,x= .keep j) (o:Ob):obC ρ o=[]:=by
 cases o with
 |var cs=>exact renCL_keep hk cs
 |row sz es=>exact renCL_keep hk es
 |map ks vs=>simp only [obC];rw [renCL_keep hk,renCL_keep hk];rfl
 |dead=>rfl
theorem look_kOut:∀{N:List (Nat×Nat)} {id:Nat} {x:Rn},look (kOut N) id=some x→∃j,x= .keep j∧look N id=some j
 |[],id,x,h=>by cases h
 |(a,b)::r,id,x,h=>by
  simp only [kOut,List.map_cons,look] at h
  simp only [look]
  by_cases e:a=id
  ·rw [if_pos e] at h⊢;injection h with h;exact ⟨b,h.symm,rfl⟩
  ·rw [if_neg e] at h⊢;exact look_kOut (N:=r) h
theorem look_kIn:∀{L:List (Nat×Nat×Ob)} {id:Nat} {x:Rn},look (kIn L) id=some x→∃j o,x= .keep j∧(j,id,o)∈L
 |[],id,x,h=>by cases h
 |(a,b,o)::r,id,x,h=>by
  simp only [kIn,List.map_cons,look] at h
  by_cases e:b=id
  ·rw [if_pos e] at h;injection h with h;subst e;exact ⟨a,o,h.symm,by simp⟩
  ·rw [if_neg e] at h
   obtain ⟨j,o',h1,h2⟩:=look_kIn (L:=r) h
   exact ⟨j,o',h1,List.mem_cons_of_mem _ h2⟩
theorem uniqF_inj:∀{N:List (Nat×Nat)},uniqF N=true→∀{i k j:Nat},look N i=some j→look N k=some j→i=k
 |[],_,i,k,j,h,_=>by cases h
 |(a,b)::r,hu,i,k,j,h1,h2=>by
  simp only [uniqF,Bool.and_eq_true] at hu
  simp only [look] at h1 h2
  have no:∀{i:Nat},look r i=some b→False:=by
   intro i h
   have:=List.all_eq_true.1 hu.1 _ (look_mem h)
   simp at this
  by_cases e1:a=i<;>by_cases e2:a=k
  ·exact e1.symm.trans e2
  ·rw [if_pos e1] at h1;rw [if_neg e2] at h2;injection h1 with h1;subst h1;exact (no h2).elim
  ·rw [if_neg e1] at h1;rw [if_pos e2] at h2;injection h2 with h2;subst h2;exact (no h1).elim
  ·rw [if_neg e1] at h1;rw [if_neg e2] at h2;exact uniqF_inj hu.2 h1 h2
theorem swap_look:∀{N:List (Nat×Nat)},uniqF N=true→∀{i j:Nat},look N i=some j→look (N.map fun x=>(x.2,x.1)) j=some i
 |[],_,i,j,h=>by cases h
 |(a,b)::r,hu,i,j,h=>by
  have hu':=hu
  simp only [uniqF,Bool.and_eq_true] at hu
  simp only [look] at h
  simp only [List.map_cons,look]
  by_cases e:a=i
  ·rw [if_pos e] at h;injection h with h;rw [if_pos h,e]
  ·rw [if_neg e] at h
   have hb:b≠j:=by
    rintro rfl
    have:=List.all_eq_true.1 hu.1 _ (look_mem h)
    simp at this
   rw [if_neg hb]
   exact swap_look hu.2 h
theorem look_swap:∀{N:List (Nat×Nat)},uniqF N=true→∀{i j:Nat},look (N.map fun x=>(x.2,x.1)) j=some i→look N i=some j
 |[],_,i,j,h=>by cases h
 |(a,b)::r,hu,i,j,h=>by
  simp only [uniqF,Bool.and_eq_true] at hu
  simp only [List.map_cons,look] at h
  simp only [look]
  by_cases e:b=j
  ·rw [if_pos e] at h;injection h with h;rw [if_pos h,e]
  ·rw [if_neg e] at h
   have hb:a≠i:=by
    rintro rfl
    have h':=look_swap hu.2 h
    have:=List.all_eq_true.1 hu.1 _ (look_mem h')
    simp at this
   rw [if_neg hb]
   exact look_swap hu.2 h
theorem uniqK_look:∀{l:List (Nat×Ob)},uniqK l=true→∀{k:Nat} {x:Ob},(k,x)∈l→look l k=some x
 |(i,y)::r,hu,k,x,h=>by
  simp only [uniqK,Bool.and_eq_true] at hu
  simp only [look]
  rcases List.mem_cons.1 h with h|h
  ·injection h with h1 h2;subst h1;subst h2;rw [if_pos rfl]
  ·have:i≠k:=by
    rintro rfl
    have:=List.all_eq_true.1 hu.1 _ h
    simp at this
   rw [if_neg this]
   exact uniqK_look hu.2 h
theorem uniqK_keys (f:Nat×Nat×Ob→Ob) (g:Nat×Nat×Ob→Ob):∀{L:List (Nat×Nat×Ob)},uniqK (L.map fun x=>(x.1,f x))=true→uniqK (L.map fun x=>(x.1,g x))=true
 |[],_=>rfl
 |x::r,h=>by
  simp only [List.map_cons,uniqK,Bool.and_eq_true] at h⊢
  refine ⟨?_,uniqK_keys f g h.2⟩
  rw [List.all_map] at h⊢
  exact h.1
theorem look_updO {N:List (Nat×Nat)} (hu:uniqF N=true) (ρ:List (Nat×Rn)):∀{upd:List (Nat×Ob)},(∀x,x∈upd→∃j,look N x.1=some j)→∀{j:Nat},
  (∀{i:Nat} {o:Ob},look N i=some j→look upd i=some o→look (upd.map fun x=>(numO N x.1,renOb ρ x.2)) j=some (renOb ρ o))∧
  ((∀i,look N i=some j→look upd i=none)→look (upd.map fun x=>(numO N x.1,renOb ρ x.2)) j=none)
 |[],_,j=>⟨fun _ h=>(by cases h),fun _=>rfl⟩
 |(a,o)::r,hN,j=>by
  obtain ⟨b,hb⟩:=hN (a,o) (by simp)
  simp only at hb
  have hnb:numO N a=b:=by simp [numO,hb]
  have ih:=look_updO hu ρ (upd:=r) (fun x hx=>hN x (List.mem_cons_of_mem _ hx)) (j:=j)
  refine ⟨fun {i o'} h1 h2=> ?_,fun h=> ?_⟩
  ·simp only [List.map_cons,look,hnb]
   simp only [look] at h2
   by_cases e:a=i
   ·rw [if_pos e] at h2;injection h2 with h2
    subst e;rw [hb] at h1;injection h1 with h1;rw [if_pos h1,h2]
   ·rw [if_neg e] at h2
    have:b≠j:=by rintro rfl;exact e (uniqF_inj hu hb h1)
    rw [if_neg this]
    exact ih.1 h1 h2
  ·simp only [List.map_cons,look,hnb]
   have:b≠j:=by
    rintro rfl
    have:=h a hb
    simp [look] at this
   rw [if_neg this]
   refine ih.2 fun i hi=> ?_
   have h2:=h i hi
   simp only [look] at h2
   by_cases e:a=i
   ·rw [if_pos e] at h2;cases h2
   ·rwa [if_neg e] at h2
theorem uniq_updO {N:List (Nat×Nat)} (hu:uniqF N=true) (ρ:List (Nat×Rn)):∀{upd:List (Nat×Ob)},uniqK upd=true→(∀x,x∈upd→∃j,look N x.1=some j)→uniqK (upd.map fun x=>(numO N x.1,renOb ρ x.2))=true
 |[],_,_=>rfl
 |(a,o)::r,h,hN=>by
  obtain ⟨b,hb⟩:=hN (a,o) (by simp)
  simp only at hb
  simp only [uniqK,Bool.and_eq_true,List.map_cons] at h⊢
  refine ⟨?_,uniq_updO hu ρ h.2 fun x hx=>hN x (List.mem_cons_of_mem _ hx)⟩
  rw [List.all_eq_true] at h⊢
  intro x hx
  obtain ⟨y,hy,rfl⟩:=List.mem_map.1 hx
  obtain ⟨c,hc⟩:=hN y (List.mem_cons_of_mem _ hy)
  have h1:numO N y.1=c:=by simp [numO,hc]
  have h2:numO N a=b:=by simp [numO,hb]
  simp only [h1,h2,Bool.not_eq_true']
  cases hq:c.beq b with
  |false=>rfl
  |true=>
   have e:=Nat.eq_of_beq_eq_true hq
   subst e
   have:=uniqF_inj hu hc hb
   have h3:=h.1 y hy
   simp [this] at h3
section
variable {P:Program}
theorem Spec.renum {f:FuncId} {args args':List AV} {pre upd:List (Nat×Ob)} {r:AV} (h:Spec P f args pre r upd) (L:List (Nat×Nat×Ob)) (N:List (Nat×Nat)) (hA:renL (kIn L) args'=args)
  (hpre:(L.map fun x=>(x.1,renOb (kIn L) x.2.2))=pre) (hok:renOK L N upd=true):
  Spec P f args' (L.map (·.2)) (ren (kOut N) r) (upd.map fun x=>(numO N x.1,renOb (kOut N) x.2)):=by
 intro F S β hp w vs M hl hv hpl hfr
 simp only [renOK,Bool.and_eq_true] at hok
 obtain ⟨⟨⟨⟨⟨uN,uU⟩,uL⟩,okL⟩,okU⟩,okM⟩:=hok
 have kin:∀id x,look (kIn L) id=some x→∃j,x= .keep j:=fun id x h=>let ⟨j,_,e,_⟩:=look_kIn h;⟨j,e⟩
 have kout:∀id x,look (kOut N) id=some x→∃j,x= .keep j:=fun id x h=>let ⟨j,e,_⟩:=look_kOut h;⟨j,e⟩
 have updN:∀x,x∈upd→∃j,look N x.1=some j:=fun x hx=>Option.isSome_iff_exists.1 (List.all_eq_true.1 okU x hx)
 have inL:∀{i i':Nat} {o:Ob},(i,i',o)∈L→given≤i∧o≠ .dead∧look hp i'=some o∧look N i=some i'∧∃o2,look upd i=some o2:=by
  intro i i' o hm
  have:=List.all_eq_true.1 okL _ hm
  simp only [Bool.and_eq_true,Nat.ble_eq] at this
  obtain ⟨⟨⟨h1,h2⟩,h3⟩,h4⟩:=this
  refine ⟨h1,?_,hpl i' o (List.mem_map.2 ⟨_,hm,rfl⟩),?_,Option.isSome_iff_exists.1 h3⟩
  ·rintro rfl;simp [isDeadOb] at h2
  ·cases hn:look N i with
   |none=>rw [hn] at h4;cases h4
   |some j=>rw [hn] at h4;simp only [Nat.beq_eq] at h4;rw [h4]
 have uP:uniqK pre=true:=by rw [←hpre];exact uniqK_keys (fun _=> .dead) (fun x=>renOb (kIn L) x.2.2) uL
 have pk:∀{i:Nat} {o:Ob},look pre i=some o→∃i' o',(i,i',o')∈L∧o=renOb (kIn L) o':=by
  intro i o ho
  have hm:=look_mem ho
  rw [←hpre] at hm
  obtain ⟨⟨a,b,c⟩,h1,h2⟩:=List.mem_map.1 hm
  simp only [Prod.mk.injEq] at h2
  obtain ⟨rfl,rfl⟩:=h2
  exact ⟨b,c,h1,rfl⟩
 have kp:∀{i i':Nat} {o:Ob},(i,i',o)∈L→look pre i=some (renOb (kIn L) o):=by
  intro i i' o hm
  exact uniqK_look uP (by rw [←hpre];exact List.mem_map.2 ⟨_,hm,rfl⟩)
 let β1:Beta:=fun i=>match look pre i with
  |some _=>(look N i).bind β
  |none=>none
 have b1:∀{i i':Nat} {o:Ob},(i,i',o)∈L→β1 i=β i':=by
  intro i i' o hm
  show (match look pre i with|some _=>(look N i).bind β|none=>none)=β i'
  rw [kp hm,(inL hm).2.2.2.1];rfl
 have b1s:∀{i:Nat} {b:Bl},β1 i=some b→∃i' o,(i,i',o)∈L∧β i'=some b:=by
  intro i b hb
  have h':(match look pre i with|some _=>(look N i).bind β|none=>none)=some b:=hb
  cases hk:look pre i with
  |none=>rw [hk] at h';cases h'
  |some o=>
   obtain ⟨i',o',hm,_⟩:=pk hk
   exact ⟨i',o',hm,(b1 hm).symm.trans hb⟩
 have same:∀{i j i':Nat} {o p:Ob},(i,i',o)∈L→(j,i',p)∈L→i=j:=fun h1 h2=>uniqF_inj uN (inL h1).2.2.2.1 (inL h2).2.2.2.1
 let HB:Nat→Prop:=fun b=>∃id j sz es n c,OwnAt β1 pre w id j sz es (.slice (some ⟨b,0,none⟩) n c)
 have up:∀{id j sz:Nat} {es:List AV} {v:Value},OwnAt β1 pre w id j sz es v→∃id' o,(id,id',o)∈L∧OwnAt β hp w id' j sz es v:=by
  rintro id j sz es v ⟨o,bi,a1,a2,a3,a4⟩
  obtain ⟨i',o',hm,rfl⟩:=pk a1
  exact ⟨i',o',hm,o',bi,(inL hm).2.2.1,(b1 hm).symm.trans a2,renOb_own a3,a4⟩
 have hbB:∀{b:Nat},HB b→HidB F S β hp w b:=by
  rintro b ⟨id,j,sz,es,n,c,h⟩
  obtain ⟨i',o',_,k⟩:=up h
  exact M.hid.block k
 let F1:Fr:={w0:=w,S0:=S,M:=fun b=>(∃i bi,β1 i=some bi∧b=bi.blk)∨HB b,β0:=noB}
 have T:Tab S S β β1 w (kIn L):=by
  refine ⟨fun _ h=>h,fun id j bi hj hb=> ?_,fun id es bi hj=> ?_,fun id cs bi hj=> ?_,fun id ks vs bi hj=> ?_⟩
  ·obtain ⟨j',o,e,hm⟩:=look_kIn hj
   injection e with e
   subst e
   rw [b1 hm];exact hb
  ·obtain ⟨_,e⟩:=kin _ _ hj;cases e
  ·obtain ⟨_,e⟩:=kin _ _ hj;cases e
  ·obtain ⟨_,e⟩:=kin _ _ hj;cases e
 have M1:Mem F1 S β1 pre w:=by
  have h0:¬F1.M 0:=by
   rintro (⟨i,bi,hi,e⟩|h)
   ·obtain ⟨i',o,_,hb⟩:=b1s hi
    exact M.not0 hb e.symm
   ·rcases (hbB h).fr with h|h
    ·exact M.tab.2 h
    ·have:=M.tabw.2;omega
  refine Mem.mk' ⟨⟨M.tabw.1,h0⟩,rfl,rfl,rfl,Nat.le_refl _,fun _ _ _=>rfl,fun id o h=> ?_,fun id bi h=> ?_,fun i j bi bj hi hj h1 h2 h3=> ?_,fun i bi h=> ?_,M.sub,fun _ h=>h,fun _ h=> .inl h,fun i b _ h=>by cases h⟩ (fun _=>⟨fun id o j sz es h1 h2=> ?_,fun id j sz es id' j' sz' es' b n c n' c' h1 h2=> ?_,fun id j sz es b n c h1 h2=> ?_⟩)
  ·obtain ⟨i',o',hm,rfl⟩:=pk h
   exact (M.obs i' o' (inL hm).2.2.1).ren T (b1 hm) (by rw [obC_keep kin];simp)
  ·obtain ⟨i',o',hm,_⟩:=b1s h
   exact ⟨_,kp hm⟩
  ·obtain ⟨i',oi,mi,ei⟩:=b1s hi
   obtain ⟨j',oj,mj,ej⟩:=b1s hj
   obtain ⟨_,di,li,_⟩:=inL mi
   obtain ⟨_,dj,lj,_⟩:=inL mj
   have:=M.inj i' j' bi bj ei ej (fun o ho=>by rw [li] at ho;injection ho with ho;exact ho▸di) (fun o ho=>by rw [lj] at ho;injection ho with ho;exact ho▸dj) h3
   subst this
   exact same mi mj
  ·obtain ⟨i',oi,mi,ei⟩:=b1s h
   obtain ⟨p1,p2,_⟩:=M.own i' bi ei
   exact ⟨p1,p2,.inl ⟨Nat.le_trans (by decide:mid≤given) (inL mi).1,.inl ⟨i,bi,h,rfl⟩⟩⟩
  ·obtain ⟨i',o',hm,rfl⟩:=pk h1
   obtain ⟨_,_,li,_⟩:=inL hm
   have h2':=renOb_own h2
   obtain ⟨v,⟨o2,bi,q1,q2,q3,q4⟩,hv⟩:=M.hid.own i' o' j sz es li h2'
   have hO:OwnAt β1 pre w id j sz es v:=⟨_,bi,h1,(b1 hm).trans q2,h2,q4⟩
   refine ⟨v,hO,?_⟩
   rcases hv with hv|⟨b,cap,r1,r2,r3,B⟩
   ·exact .inl hv
   ·refine .inr ⟨b,cap,r1,r2,r3,B.ns,B.lt,.inl (.inr ⟨id,j,sz,es,es.length,cap,by rw [←r1];exact hO⟩),fun i bi' hi hl=> ?_⟩
    obtain ⟨k',ok,mk,ek⟩:=b1s hi
    obtain ⟨_,dk,lk,_⟩:=inL mk
    exact B.ap k' bi' ek (fun o' ho'=>by rw [lk] at ho';injection ho' with ho';exact ho'▸dk)
  ·obtain ⟨i1,o1,m1,k1⟩:=up h1
   obtain ⟨i2,o2,m2,k2⟩:=up h2
   obtain ⟨e1,e2⟩:=M.hid.one _ _ _ _ _ _ _ _ _ _ _ _ _ k1 k2
   subst e1
   exact ⟨same m1 m2,e2⟩
  ·obtain ⟨i1,o1,m1,k1⟩:=up h1
   exact absurd h2 (Nat.not_lt.2 (Nat.le_trans (by decide:mid≤given) (inL m1).1))
 have hl1:vs.length=args.length:=by rw [←hA,renL_map,List.length_map];exact hl
 have hv1:∀(i:Nat) v x,vs[i]? =some v→args[i]? =some x→V S β1 w v x:=by
  intro i v x h1 h2
  rw [←hA] at h2
  obtain ⟨c0,h3,rfl⟩:=renL_get h2
  exact (hv i v c0 h1 h3).ren T (by rw [renC_keep kin];simp)
 have hcall:=h F1 S β1 pre w vs M1 hl1 hv1 (fun id o hm=>uniqK_look uP hm) (fun id o hm hn=>by
  cases hk:look pre id with
  |none=>rfl
  |some o'=>exact absurd (look_mem hk) (hn o'))
 refine hcall.mono ?_
 rintro e w' ⟨v,S',β2,rfl,E2,M2,hV⟩
 have M':Mem F1 S' β2 upd w':=M2.look_eq fun k=>by
  show look (putAll pre upd) k=look upd k
  rw [look_putAll uU]
  cases hk:look upd k with
  |some o=>rfl
  |none=>
   simp only
   cases hp':look pre k with
   |none=>rfl
   |some o=>
    obtain ⟨i',o',hm,_⟩:=pk hp'
    obtain ⟨o2,h2⟩:=(inL hm).2.2.2.2
    rw [hk] at h2;cases h2
 have notM:∀b,S b→¬F1.M b:=by
  rintro b hs (⟨i,bi,hi,rfl⟩|h)
  ·obtain ⟨i',o,_,hb⟩:=b1s hi
   exact (M.own i' bi hb).1 hs
  ·exact (hbB h).ns hs
 have hag:Agr S w w':=fun b hb=>M'.keep b (M.sub b hb) (notM b hb)
 have keepPre:∀{i i':Nat} {o:Ob},(i,i',o)∈L→∃b,β i'=some b∧β2 i=some b:=by
  intro i i' o hm
  obtain ⟨b,hb⟩:=(M.obs i' o (inL hm).2.2.1).some
  exact ⟨b,hb,E2.hβ i b ((b1 hm).trans hb)⟩
 have d2:∀{i:Nat} {b:Bl},β2 i=some b→∃o j,look upd i=some o∧look N i=some j:=by
  intro i b hb
  obtain ⟨o,ho⟩:=M'.dom i b hb
  obtain ⟨j,hj⟩:=updN _ (look_mem ho)
  exact ⟨o,j,ho,hj⟩
 have none2:∀{i:Nat},β2 i=none→look upd i=none:=by
  intro k hk
  cases hs:look upd k with
  |none=>rfl
  |some o2=>
   exfalso
   obtain ⟨b,hb⟩:=(M'.obs k o2 hs).some
   rw [hk] at hb;cases hb
 have both:∀{i j:Nat} {b b':Bl},look N i=some j→β j=some b→β2 i=some b'→b'=b∧∃o,(i,j,o)∈L:=by
  intro i j b b' hN hb hb'
  by_cases hi:∃i' o,(i,i',o)∈L
  ·obtain ⟨i',o,hm⟩:=hi
   have hj:=(inL hm).2.2.2.1
   rw [hN] at hj;injection hj with hj;subst hj
   obtain ⟨b0,e1,e2⟩:=keepPre hm
   rw [hb] at e1;rw [hb'] at e2
   injection e1 with e1;injection e2 with e2
   exact ⟨e2.trans e1.symm,o,hm⟩
  ·exfalso
   obtain ⟨o2,j2,ho2,hj2⟩:=d2 hb'
   have:=hfr j (renOb (kOut N) o2) (List.mem_map.2 ⟨(i,o2),look_mem ho2,by simp [numO,hN]⟩) (fun o' hm=>by
    obtain ⟨⟨a,b,c⟩,h1,h2⟩:=List.mem_map.1 hm
    simp only [Prod.mk.injEq] at h2
    obtain ⟨rfl,rfl⟩:=h2
    have:=uniqF_inj uN (inL h1).2.2.2.1 hN
    subst this
    exact hi ⟨_,_,h1⟩)
   obtain ⟨o,ho⟩:=M.dom j b hb
   rw [this] at ho
   cases ho
 let β':Beta:=fun j=>match (look (N.map fun x=>(x.2,x.1)) j).bind β2 with
  |some b=>some b
  |none=>β j
 have x2:∀{i j b},look N i=some j→β2 i=some b→β' j=some b:=by
  intro i j b hN h
  show (match (look (N.map fun x=>(x.2,x.1)) j).bind β2 with|some b=>some b|none=>β j)=some b
  rw [swap_look uN hN]
  show (match β2 i with|some b=>some b|none=>β j)=some b
  rw [h]
 have xc:∀{j b},β' j=some b→(∃i,look N i=some j∧β2 i=some b)∨((∀i,look N i=some j→β2 i=none)∧β j=some b):=by
  intro j b h
  have h':(match (look (N.map fun x=>(x.2,x.1)) j).bind β2 with|some b=>some b|none=>β j)=some b:=h
  cases h2:look (N.map fun x=>(x.2,x.1)) j with
  |none=>
   rw [h2] at h'
   exact .inr ⟨fun i hi=>(by rw [swap_look uN hi] at h2;cases h2),h'⟩
  |some i=>
   rw [h2] at h'
   have hi:=look_swap uN h2
   have h'':(match β2 i with|some b=>some b|none=>β j)=some b:=h'
   cases h3:β2 i with
   |none=>
    rw [h3] at h''
    exact .inr ⟨fun k hk=>(by rw [uniqF_inj uN hk hi];exact h3),h''⟩
   |some b'=>rw [h3] at h'';injection h'' with h'';subst h'';exact .inl ⟨i,hi,h3⟩
 have x1:∀i b,β i=some b→β' i=some b:=by
  intro j b h
  cases h2:(look (N.map fun x=>(x.2,x.1)) j).bind β2 with
  |none=>
   show (match (look (N.map fun x=>(x.2,x.1)) j).bind β2 with|some b=>some b|none=>β j)=some b
   rw [h2];exact h
  |some b'=>
   obtain ⟨i,h3,h4⟩:=Option.bind_eq_some_iff.1 h2
   have hN:=look_swap uN h3
   have:=(both hN h h4).1
   subst this
   exact x2 hN h4
 have T2:Tab S' S' β2 β' w' (kOut N):=by
  refine ⟨fun _ h=>h,fun id j bi hj hb=> ?_,fun id es bi hj=> ?_,fun id cs bi hj=> ?_,fun id ks vs bi hj=> ?_⟩
  ·obtain ⟨j',e,hn⟩:=look_kOut hj
   injection e with e
   subst e
   exact x2 hn hb
  ·obtain ⟨_,e⟩:=kout _ _ hj;cases e
  ·obtain ⟨_,e⟩:=kout _ _ hj;cases e
  ·obtain ⟨_,e⟩:=kout _ _ hj;cases e
 generalize hu':(upd.map fun x=>(numO N x.1,renOb (kOut N) x.2))=upd'
 have uU':uniqK upd'=true:=by rw [←hu'];exact uniq_updO uN _ uU updN
 have hlook:=look_putAll uU' hp
 have lkIn:∀{i j:Nat} {o:Ob},look N i=some j→look upd i=some o→look (putAll hp upd') j=some (renOb (kOut N) o):=by
  intro i j o h1 h2
  have:=(look_updO uN (kOut N) updN (j:=j)).1 h1 h2
  rw [hu'] at this
  rw [hlook,this]
 have lkOut:∀{j:Nat},(∀i,look N i=some j→β2 i=none)→look (putAll hp upd') j=look hp j:=by
  intro j h1
  have:=(look_updO uN (kOut N) updN (j:=j)).2 (fun i hi=>none2 (h1 i hi))
  rw [hu'] at this
  rw [hlook,this]
 have frM:∀{b:Nat},F1.M b→(F.M b∧∀{i j:Nat} {o:Ob},mid≤i→look N i=some j→look upd i=some o→mid≤j)∨F.w0.heap.size≤b:=by
  have go:∀{p p':Nat} {o:Ob},(p,p',o)∈L→mid≤p'→∀{i j:Nat} {o:Ob},mid≤i→look N i=some j→look upd i=some o→mid≤j:=by
   intro p p' o hm hp' i j o2 hi hN hu
   rcases Bool.or_eq_true _ _▸okM with h|h
   ·have:=List.all_eq_true.1 h _ (look_mem hu)
    simp only [Bool.or_eq_true,Nat.blt_eq,Nat.ble_eq] at this
    rcases this with h|h
    ·omega
    ·simpa [numO,hN] using h
   ·have:=List.all_eq_true.1 h _ hm
    simp only [Nat.blt_eq] at this
    omega
  rintro b (⟨p,bp,hp1,rfl⟩|⟨id,q,sz,es,n,c,h⟩)
  ·obtain ⟨p',o,hm,hb⟩:=b1s hp1
   rcases (M.own p' bp hb).2.2 with ⟨g,h⟩|h
   ·exact .inl ⟨h,go hm g⟩
   ·exact .inr h
  ·obtain ⟨p',o,hm,k⟩:=up h
   rcases Nat.lt_or_ge p' mid with hlt|hge
   ·exact .inr (M.hid.new _ _ _ _ _ _ _ k hlt)
   ·rcases (M.hid.block k).fr with h|h
    ·exact .inl ⟨h,go hm hge⟩
    ·exact .inr h
 have frM':∀{b:Nat},F1.M b→F.M b∨F.w0.heap.size≤b:=fun h=>(frM h).imp (fun h=>h.1) (fun h=>h)
 have out:∀{i:Nat} {bi:Bl} {o:Ob},β i=some bi→look hp i=some o→o≠ .dead→(∀k,look N k=some i→β2 k=none)→w'.heap[bi.blk]? =w.heap[bi.blk]? :=by
  intro i bi o hi ho hd h2
  have hlv:∀o',look hp i=some o'→o'≠ .dead:=fun o' ho'=>by rw [ho] at ho';injection ho' with ho';exact ho'▸hd
  refine M'.keep _ (M.own i bi hi).2.1 ?_
  rintro (⟨p,bp,hp1,hp2⟩|h)
  ·obtain ⟨p',op,mp,ep⟩:=b1s hp1
   obtain ⟨_,dp,lp,np,_⟩:=inL mp
   have:=M.inj i p' bi bp hi ep hlv (fun o' ho'=>by rw [lp] at ho';injection ho' with ho';exact ho'▸dp) hp2
   subst this
   obtain ⟨b0,e1,e2⟩:=keepPre mp
   rw [h2 p np] at e2;cases e2
  ·exact (hbB h).ap i bi hi hlv rfl
 have outH:∀{id j sz:Nat} {es:List AV} {b n c:Nat},OwnAt β hp w id j sz es (.slice (some ⟨b,0,none⟩) n c)→(∀k,look N k=some id→β2 k=none)→¬F1.M b:=by
  intro id j sz es b n c h h2
  have B:=M.hid.block h
  rintro (⟨p,bp,hp1,hp2⟩|⟨id',j',sz',es',n',c',h'⟩)
  ·obtain ⟨p',op,mp,ep⟩:=b1s hp1
   obtain ⟨_,dp,lp,_⟩:=inL mp
   exact B.ap p' bp ep (fun o' ho'=>by rw [lp] at ho';injection ho' with ho';exact ho'▸dp) hp2.symm
  ·obtain ⟨k',o',mk,k1⟩:=up h'
   have:=(M.hid.one _ _ _ _ _ _ _ _ _ _ _ _ _ h k1).1
   subst this
   obtain ⟨b0,e1,e2⟩:=keepPre mk
   rw [h2 id' (inL mk).2.2.2.1] at e2;cases e2
 have hend:Ext S S' β β' w w'∧Mem F S' β' (putAll hp upd') w'∧V S' β' w' v (ren (kOut N) r):=by
  refine ⟨⟨M'.base,x1,hag⟩,?_,hV.ren T2 (by rw [renC_keep kout];simp)⟩
  have live2:∀{i j:Nat},look N i=some j→(∀o,look (putAll hp upd') j=some o→o≠ .dead)→∀o,look upd i=some o→o≠ .dead:=by
   intro i j hN hh o ho hd
   subst hd
   exact hh _ (lkIn hN ho) rfl
  have live1:∀{j:Nat},(∀i,look N i=some j→β2 i=none)→(∀o,look (putAll hp upd') j=some o→o≠ .dead)→∀o,look hp j=some o→o≠ .dead:=by
   intro j hk hh o ho
   exact hh o (by rw [lkOut hk];exact ho)
  have mixed:∀{i j:Nat} {bi bj:Bl},β2 i=some bi→(∀k,look N k=some j→β2 k=none)→β j=some bj→(∀o,look (putAll hp upd') j=some o→o≠ .dead)→bi.blk=bj.blk→False:=by
   intro i j bi bj hi hj2 hj hlj hblk
   rcases (M'.own i bi hi).2.2 with ⟨_,⟨p,bp,hp1,hp2⟩|h⟩|h
   ·obtain ⟨p',op,mp,ep⟩:=b1s hp1
    obtain ⟨_,dp,lp,np,_⟩:=inL mp
    have:=M.inj p' j bp bj ep hj (fun o' ho'=>by rw [lp] at ho';injection ho' with ho';exact ho'▸dp) (live1 hj2 hlj) (hp2.symm.trans hblk)
    subst this
    obtain ⟨b0,e1,e2⟩:=keepPre mp
    rw [hj2 p np] at e2;cases e2
   ·exact (hbB h).ap j bj hj (live1 hj2 hlj) hblk.symm
   ·have:=(M.own j bj hj).2.1
    have hw:F1.w0.heap.size=w.heap.size:=rfl
    rw [hblk] at h
    omega
  refine Mem.mk' ⟨M.tab,M'.os.trans M.os,M'.tape.trans M.tape,M'.output.trans M.output,Nat.le_trans M.size M'.size,fun b h1 h2=> ?_,fun id o h=> ?_,fun id bi h=> ?_,fun i j bi bj hi hj h1 h2 h3=> ?_,fun i bi hi=> ?_,M'.sub,fun b h=>M'.base b (M.base b h),fun b h=> ?_,fun i b h1 h2=>x1 i b (M.giv i b h1 h2)⟩ (fun M0=> ?_)
  ·rw [←M.keep b h1 h2]
   refine M'.keep b (Nat.lt_of_lt_of_le h1 M.size) fun hm=> ?_
   rcases frM' hm with h|h
   ·exact h2 h
   ·exact absurd h1 (Nat.not_lt.2 h)
  ·by_cases hi:∃i o2,look N i=some id∧look upd i=some o2
   ·obtain ⟨i,o2,hN,hu⟩:=hi
    rw [lkIn hN hu] at h
    injection h with h
    subst h
    obtain ⟨b,hb⟩:=(M'.obs i o2 hu).some
    exact (M'.obs i o2 hu).ren T2 ((x2 hN hb).trans hb.symm) (by rw [obC_keep kout];simp)
   ·have h2:∀i,look N i=some id→β2 i=none:=by
     intro i hN
     cases h2:β2 i with
     |none=>rfl
     |some b=>obtain ⟨o,ho⟩:=M'.dom i b h2;exact absurd ⟨i,o,hN,ho⟩ hi
    rw [lkOut h2] at h
    have hob:=M.obs id o h
    by_cases hd:o= .dead
    ·subst hd
     obtain ⟨b,hb⟩:=hob
     exact ⟨b,x1 id b hb⟩
    ·exact hob.mono M'.base x1 hag (fun bi hi=>out hi h hd h2)
  ·rcases xc h with ⟨i,hN,h⟩|⟨h2,h⟩
   ·obtain ⟨o,ho⟩:=M'.dom i bi h
    exact ⟨_,lkIn hN ho⟩
   ·obtain ⟨o,ho⟩:=M.dom id bi h
    exact ⟨o,by rw [lkOut h2];exact ho⟩
  ·rcases xc hi with ⟨i2,hiN,hi⟩|⟨hi2,hi⟩<;>rcases xc hj with ⟨j2,hjN,hj⟩|⟨hj2,hj⟩
   ·have:=M'.inj i2 j2 bi bj hi hj (live2 hiN h1) (live2 hjN h2) h3
    subst this
    rw [hiN] at hjN;injection hjN
   ·exact (mixed hi hj2 hj h2 h3).elim
   ·exact (mixed hj hi2 hi h1 h3.symm).elim
   ·exact M.inj i j bi bj hi hj (live1 hi2 h1) (live1 hj2 h2) h3
  ·rcases xc hi with ⟨k,hN,hi⟩|⟨hi2,hi⟩
   ·obtain ⟨p1,p2,p3⟩:=M'.own k bi hi
    refine ⟨p1,p2,?_⟩
    rcases p3 with ⟨g,hM⟩|p3
    ·obtain ⟨o,ho⟩:=M'.dom k bi hi
     rcases frM hM with ⟨h1,h2⟩|h
     ·exact .inl ⟨h2 g hN ho,h1⟩
     ·exact .inr h
    ·exact .inr (Nat.le_trans M.size p3)
   ·obtain ⟨p1,p2,p3⟩:=M.own i bi hi
    refine ⟨fun hs=> ?_,Nat.lt_of_lt_of_le p2 M'.size,p3⟩
    rcases M'.new _ hs with h|h
    ·exact p1 h
    ·exact absurd p2 (Nat.not_lt.2 h)
  ·rcases M'.new b h with h|h
   ·exact M.new b h
   ·exact .inr (Nat.le_trans M.size h)
  ·
   have part:∀{id j sz:Nat} {es:List AV} {v:Value},OwnAt β' (putAll hp upd') w' id j sz es v→(∃i,look N i=some id∧OwnAt β2 upd w' i j sz es v)∨((∀i,look N i=some id→β2 i=none)∧OwnAt β hp w id j sz es v):=by
    rintro id j sz es v ⟨o,bi,a1,a2,a3,a4⟩
    rcases xc a2 with ⟨i,hN,h⟩|⟨h2,h⟩
    ·obtain ⟨o2,ho2⟩:=M'.dom i bi h
     rw [lkIn hN ho2] at a1
     injection a1 with a1
     subst a1
     exact .inl ⟨i,hN,o2,bi,ho2,h,renOb_own a3,a4⟩
    ·rw [lkOut h2] at a1
     exact .inr ⟨h2,o,bi,a1,h,a3,by rw [←slotV_same (out h a1 (Ob.at_live a3) h2) j];exact a4⟩
   have bIn:∀{b:Nat},HidB F1 S' β2 upd w' b→HidB F S' β' (putAll hp upd') w' b:=by
    intro b B
    refine ⟨B.ns,B.lt,?_,fun i bi hi hl=> ?_⟩
    ·rcases B.fr with h|h
     ·exact frM' h
     ·exact .inr (Nat.le_trans M.size h)
    ·rcases xc hi with ⟨k,hN,h⟩|⟨h2,h⟩
     ·exact B.ap k bi h (live2 hN hl)
     ·intro e
      rcases B.fr with (⟨p,bp,hp1,hp2⟩|hh)|hh
      ·obtain ⟨p',op,mp,ep⟩:=b1s hp1
       obtain ⟨_,dp,lp,np,_⟩:=inL mp
       have:=M.inj p' i bp bi ep h (fun o' ho'=>by rw [lp] at ho';injection ho' with ho';exact ho'▸dp) (live1 h2 hl) (hp2.symm.trans e.symm)
       subst this
       obtain ⟨b0,e1,e2⟩:=keepPre mp
       rw [h2 p np] at e2;cases e2
      ·exact (hbB hh).ap i bi h (live1 h2 hl) e
      ·have:=(M.own i bi h).2.1
       have hw:F1.w0.heap.size=w.heap.size:=rfl
       omega
   have bOut:∀{id j sz:Nat} {es:List AV} {b n c:Nat},OwnAt β hp w id j sz es (.slice (some ⟨b,0,none⟩) n c)→(∀i,look N i=some id→β2 i=none)→w'.heap[b]? =w.heap[b]? ∧HidB F S' β' (putAll hp upd') w' b:=by
    intro id j sz es b n c h h2
    have B:=M.hid.block h
    have hM:=outH h h2
    refine ⟨M'.keep b B.lt hM,fun hs=> ?_,Nat.lt_of_lt_of_le B.lt M'.size,B.fr,fun i bi hi hl e=> ?_⟩
    ·rcases M'.new _ hs with h|h
     ·exact B.ns h
     ·exact absurd B.lt (Nat.not_lt.2 h)
    ·rcases xc hi with ⟨k,hN,hi2⟩|⟨hi2,hi1⟩
     ·rcases (M'.own k bi hi2).2.2 with ⟨_,h⟩|h
      ·exact hM (e▸h)
      ·have:=B.lt
       have hw:F1.w0.heap.size=w.heap.size:=rfl
       omega
     ·exact B.ap i bi hi1 (live1 hi2 hl) e
   refine ⟨fun id o j sz es h1 h2=> ?_,fun id j sz es id' j' sz' es' b n c n' c' h1 h2=> ?_,fun id j sz es b n c h1 h2=> ?_⟩
   ·by_cases hi:∃i o2,look N i=some id∧look upd i=some o2
    ·obtain ⟨i,o2,hN,hu⟩:=hi
     have h1':=h1
     rw [lkIn hN hu] at h1
     injection h1 with h1
     subst h1
     obtain ⟨v,⟨o3,bi,q1,q2,q3,q4⟩,hv⟩:=M'.hid.own i o2 j sz es hu (renOb_own h2)
     refine ⟨v,⟨_,bi,h1',x2 hN q2,h2,q4⟩,?_⟩
     rcases hv with hv|⟨b,cap,r1,r2,r3,B⟩
     ·exact .inl hv
     ·exact .inr ⟨b,cap,r1,r2,r3,bIn B⟩
    ·have h2n:∀i,look N i=some id→β2 i=none:=by
      intro i hN
      cases h2':β2 i with
      |none=>rfl
      |some b=>obtain ⟨o,ho⟩:=M'.dom i b h2';exact absurd ⟨i,o,hN,ho⟩ hi
     have h1':=h1
     rw [lkOut h2n] at h1
     obtain ⟨v,hO,hv⟩:=M.hid.own id o j sz es h1 h2
     have hO':=hO
     obtain ⟨o3,bi,q1,q2,q3,q4⟩:=hO
     refine ⟨v,⟨o,bi,h1',x1 id bi q2,h2,by rw [slotV_same (out q2 h1 (Ob.at_live h2) h2n) j];exact q4⟩,?_⟩
     rcases hv with hv|⟨b,cap,r1,r2,r3,B⟩
     ·exact .inl hv
     ·subst r1
      obtain ⟨g1,g2⟩:=bOut hO' h2n
      exact .inr ⟨b,cap,rfl,r2,r3.mono M'.base (fun _ _ h=>h) hag g1,g2⟩
   ·rcases part h1 with ⟨i1,n1,k1⟩|⟨d1,k1⟩<;>rcases part h2 with ⟨i2,n2,k2⟩|⟨d2,k2⟩
    ·obtain ⟨e1,e2⟩:=M'.hid.one _ _ _ _ _ _ _ _ _ _ _ _ _ k1 k2
     subst e1
     rw [n1] at n2;injection n2 with n2
     exact ⟨n2,e2⟩
    ·exfalso
     have B1:=M'.hid.block k1
     rcases B1.fr with h|h
     ·exact outH k2 d2 h
     ·have:=(M.hid.block k2).lt
      have hw:F1.w0.heap.size=w.heap.size:=rfl
      omega
    ·exfalso
     have B1:=M'.hid.block k2
     rcases B1.fr with h|h
     ·exact outH k1 d1 h
     ·have:=(M.hid.block k1).lt
      have hw:F1.w0.heap.size=w.heap.size:=rfl
      omega
    ·exact M.hid.one _ _ _ _ _ _ _ _ _ _ _ _ _ k1 k2
   ·rcases part h1 with ⟨i1,n1,k1⟩|⟨d1,k1⟩
    ·have B1:=M'.hid.block k1
     rcases B1.fr with h|h
     ·rcases frM h with ⟨_,g⟩|g
      ·obtain ⟨o,bi,q1,q2,q3,q4⟩:=k1
       rcases Nat.lt_or_ge i1 mid with hlt|hge
       ·have:=M'.hid.new _ _ _ _ _ _ _ ⟨o,bi,q1,q2,q3,q4⟩ hlt
        exact Nat.le_trans M.size this
       ·exact absurd (g hge n1 q1) (Nat.not_le.2 h2)
      ·exact g
     ·exact Nat.le_trans M.size h
    ·exact M.hid.new _ _ _ _ _ _ _ k1 h2
 obtain ⟨x,m,hv2⟩:=hend
 exact ⟨v,S',β',rfl,x,m,hv2⟩
end
end
mutual
def bareV:AV→Bool
 | .int _ _=>true
 | .bool _=>true
 | .str _=>true
 | .tup vs=>bareVL vs
 | .agg vs=>bareVL vs
 |_=>false
def bareVL:List AV→Bool
 |[]=>true
 |x::r=>bareV x&&bareVL r
end
theorem bareVL_mem:∀{l:List AV},bareVL l=true→∀x,x∈l→bareV x=true
 |[],_,x,h=>by simp at h
 |y::r,hl,x,h=>by
  simp only [bareVL,Bool.and_eq_true] at hl
  rcases List.mem_cons.1 h with h|h
  ·rw [h];exact hl.1
  ·exact bareVL_mem hl.2 x h
theorem V.bare {S S':Blk} {β β':Beta} {w w':World} {v:Value} {x:AV} (h:V S β w v x):bareV x=true→V S' β' w' v x:=by
 induction h with
 |int k n=>intro _;exact .int k n
 |bool b=>intro _;exact .bool b
 |str s=>intro _;exact .str s
 |agg vs cs hl h ih=>
  intro hb
  simp only [bareV] at hb
  exact .agg vs cs hl fun i v c h1 h2=>ih i v c h1 h2 (bareVL_mem hb c (List.mem_of_getElem? h2))
 |tup vs cs hl h ih=>
  intro hb
  simp only [bareV] at hb
  exact .tup vs cs hl fun i v c h1 h2=>ih i v c h1 h2 (bareVL_mem hb c (List.mem_of_getElem? h2))
 |_=>intro hb;cases hb
def frz:Ob→Rn
 | .var cs=> .var cs
 | .row _ es=> .row es
 | .map ks vs=> .map ks vs
 | .dead=> .keep 0
def kFrz (L:List (Nat×Ob)):List (Nat×Rn):=L.map fun x=>(x.1,frz x.2)
theorem look_kFrz:∀{L:List (Nat×Ob)} {id:Nat} {x:Rn},look (kFrz L) id=some x→∃o,x=frz o∧(id,o)∈L
 |[],id,x,h=>by cases h
 |(a,o)::r,id,x,h=>by
  simp only [kFrz,List.map_cons,look] at h
  by_cases e:a=id
  ·rw [if_pos e] at h;injection h with h;subst e;exact ⟨o,h.symm,by simp⟩
  ·rw [if_neg e] at h
   obtain ⟨o',h1,h2⟩:=look_kFrz (L:=r) h
   exact ⟨o',h1,List.mem_cons_of_mem _ h2⟩
theorem Spec.borrow {P:Program} {f:FuncId} {args args':List AV} {r:AV} (h:Spec P f args [] r []) (L:List (Nat×Ob)) (hd:L.all (fun x=> !isDeadOb x.2)=true) (hb:∀x,x∈L→∀p,p∈bareOb x.2→p)
  (hA:renL (kFrz L) args'=args) (hc:∀p,p∈renCL (kFrz L) args'→p) (hr:bareV r=true):Spec P f args' L r []:=by
 intro F S β hp w vs M hl hv hpl _
 have live:∀{id:Nat} {o:Ob},(id,o)∈L→o≠ .dead:=by
  rintro id o hm rfl
  have:=List.all_eq_true.1 hd _ hm
  simp [isDeadOb] at this
 let S1:Blk:=fun b=>S b∨∃id o bi,(id,o)∈L∧β id=some bi∧b=bi.blk
 have hS:∀b,S b→S1 b:=fun b h=> .inl h
 let F1:Fr:={w0:=w,S0:=S1,M:=fun _=>False,β0:=noB}
 have T:Tab S S1 β noB w (kFrz L):=by
  refine ⟨hS,fun id j bi hj hb'=> ?_,fun id es bi hj hb'=> ?_,fun id cs bi hj hb'=> ?_,fun id ks vs bi hj hb'=> ?_⟩
  ·obtain ⟨o,e,hm⟩:=look_kFrz hj
   cases o with
   |dead=>exact absurd rfl (live hm)
   |_=>cases e
  ·obtain ⟨o,e,hm⟩:=look_kFrz hj
   cases o with
   |row sz es'=>
    injection e with e;subst e
    obtain ⟨bj,q1,q2,q3⟩:=M.obs id _ (hpl _ _ hm)
    rw [hb'] at q1;injection q1 with q1;subst q1
    exact ⟨.inr ⟨id,_,bi,hm,hb',rfl⟩,q3.bare hS (hb _ hm _ (List.mem_singleton.2 rfl))⟩
   |_=>cases e
  ·obtain ⟨o,e,hm⟩:=look_kFrz hj
   cases o with
   |var cs'=>
    injection e with e;subst e
    obtain ⟨bj,q1,q2,q3⟩:=M.obs id _ (hpl _ _ hm)
    rw [hb'] at q1;injection q1 with q1;subst q1
    have hn:noIdsL cs=true:=hb _ hm _ (List.mem_singleton.2 rfl)
    exact ⟨.inr ⟨id,_,bi,hm,hb',rfl⟩,q3.bare hS (by simp [noIdsL,Ped.noIds,hn])⟩
   |_=>cases e
  ·obtain ⟨o,e,hm⟩:=look_kFrz hj
   cases o with
   |map ks' vs'=>
    injection e with e e';subst e;subst e'
    obtain ⟨bj,es,cl,q1,q2,q3,q4,q5,q6,_⟩:=M.obs id _ (hpl _ _ hm)
    rw [hb'] at q1;injection q1 with q1;subst q1
    obtain ⟨n1,n2⟩:=hb _ hm _ (List.mem_singleton.2 rfl)
    exact ⟨.inr ⟨id,_,bi,hm,hb',rfl⟩,es,cl,q2,q3,q4,fun i e k he hk=>((q5 i e k he hk).noIds (noIdsL_iff.1 n1 k (List.mem_of_getElem? hk))).mono hS (fun _ _ h=>h) (Agr.refl S w),
     fun i e v he hv=>((q6 i e v he hv).noIds (noIdsL_iff.1 n2 v (List.mem_of_getElem? hv))).mono hS (fun _ _ h=>h) (Agr.refl S w)⟩
   |_=>cases e
 have hsub:∀b,S1 b→b<w.heap.size:=by
  rintro b (hs|⟨id,o,bi,_,hb',rfl⟩)
  ·exact M.sub b hs
  ·exact (M.own id bi hb').2.1
 have M1:Mem F1 S1 noB [] w:=Mem.mk' ⟨⟨M.tabw.1,fun h=>h⟩,rfl,rfl,rfl,Nat.le_refl _,fun _ _ _=>rfl,fun id o h=>(by cases h),fun id bi h=>(by cases h),fun i j bi bj h=>(by cases h),fun i bi h=>(by cases h),hsub,fun _ h=>h,fun _ h=> .inl h,fun i b _ h=>h⟩ (fun _=>Hid.noOwn (fun id o j sz es h=>by cases h))
 have hl1:vs.length=args.length:=by rw [←hA,renL_map,List.length_map];exact hl
 have hcall:=h F1 S1 noB [] w vs M1 hl1 (fun i v x h1 h2=>by
  rw [←hA] at h2
  obtain ⟨c0,h3,rfl⟩:=renL_get h2
  exact (hv i v c0 h1 h3).ren T (renCL_mem hc c0 (List.mem_of_getElem? h3))) (fun id o hm=>by cases hm) (fun id o hm _=>rfl)
 refine hcall.mono ?_
 rintro e w' ⟨v,S',β',rfl,E',M',hV⟩
 have hend:∃S2 β2,Ext S S2 β β2 w w'∧Mem F S2 β2 hp w'∧V S2 β2 w' v r:=by
  obtain ⟨x,m⟩:=M.beyond (S':=fun b=>S b∨(S' b∧w.heap.size≤b)) (w':=w') (fun b h=> .inl h) (fun b h=>h.imp (fun h=>h) (fun h=>h.2)) (fun b h=>h.elim (fun h=>Nat.lt_of_lt_of_le (M.sub b h) M'.size) (fun h=>M'.sub b h.1)) M'.os M'.tape M'.output M'.size (fun b hb=>M'.keep b hb (fun h=>h))
  exact ⟨_,β,x,m,hV.bare hr⟩
 obtain ⟨S2,β2,x,m,hv2⟩:=hend
 exact ⟨v,S2,β2,rfl,x,m,hv2⟩
end Go.Ped
namespace Go.Ped
open Go.RowKit Go.Proofs
section
variable (l:List Li) (p:ByteArray) (hd:List Ar) (bd:List Li) (k i:Int) (rs:List Ru)
structure Ed where
 f:ByteArray
 t:ByteArray
 k:Int
 i:Int
def Ed.cells (e:Ed):List AV:=[.str e.f,.str e.t,.int .i8 e.k,.int .i64 e.i]
def Ed.av (e:Ed):AV:= .agg e.cells
theorem noIds_ed (e:Ed):noIds e.av=true:=by simp only [Ed.av,Ed.cells,noIds,noIdsL,Bool.and_self]
@[simp] theorem noIdsL_eds (l:List Ed):noIdsL (l.map Ed.av)=true:=noIdsL_of Ed.av noIds_ed l
@[simp] theorem okE_ed (x:Ed):okE 4 x.av:=⟨rfl,by simp [Ed.av,Ed.cells,AV.cells,solid]⟩
abbrev Z260:Nat×Ob:=(100000,.var [.str p,.seq (hd.map Ar.av) false,.seq (bd.map Li.av) false])
abbrev Z261:Nat×Ob:=(100001,.var [.int .i8 k])
abbrev Z262:Nat×Ob:=(100002,.var [.int .i64 i])
def ep (p:ByteArray) (hd:List Ar) (bd:List Li) (k i:Int) (es:List Ed):List (Nat×Ob):=[Z260 p hd bd,Z261 k,Z262 i,(100003,.var [.own 4 (es.map Ed.av)])]
theorem w221n (x:Li) (p:ByteArray) (hd:List Ar) (bd:List Li) (k i:Int):En 23 (bodyOf Tryz.f221) ⟨[(0,x.av),(1,.elt 100000 0 0),(2,.elt 100001 0 0),(3,.elt 100002 0 0),(4,.elt 100003 0 0)],[(100000,.var [.str p,.seq (hd.map Ar.av) false,.seq (bd.map Li.av) false]),(100001,.var [.int .i8 k]),(100002,.var [.int .i64 i]),(100003,.var [.nils])]⟩ (fun e t=>e= .normal∧∃y:Ed,t=⟨[],[(100000,.var [.str p,.seq (hd.map Ar.av) false,.seq (bd.map Li.av) false]),(100001,.var [.int .i8 k]),(100002,.var [.int .i64 i]),(100003,.var [.row 60022 0 1]),(60022,.row 4 [y.av])]⟩):=by
 rcases bft (decide (Li.k x=2)) with h0|h0
 ·exact ⟨Out.normal,St.mk [] [(100000,Ob.var [AV.str p,AV.seq (List.map Ar.av hd) false,AV.seq (List.map Li.av bd) false]),(100001,Ob.var [AV.int .i8 k]),(100002,Ob.var [AV.int .i64 i]),(100003,Ob.var [AV.row 60022 0 (0+List.length [AV.agg [AV.str p,AV.str x.2,AV.int .i8 2,AV.int .i64 i]])]),(60022,Ob.row 4 [AV.agg [AV.str p,AV.str x.2,AV.int .i8 2,AV.int .i64 i]])],⟨rfl,⟨_,_,_,_⟩,rfl⟩,gA 60000 [.is true,.is true] [] [K1 100000,K1 100001,K1 100002,K0 100003,K1 60022] (by kernel_rfl) (aC6 h0 (show 1≤List.length [AV.agg [AV.str p,AV.str x.2,AV.int .i8 2,AV.int .i64 i]]∧[AV.agg [AV.str p,AV.str x.2,AV.int .i8 2,AV.int .i64 i]]≠[]∧(∀(e:AV),e∈[AV.agg [AV.str p,AV.str x.2,AV.int .i8 2,AV.int .i64 i]]→okE 4 e)∧(∀(e:AV),e∈[]→okE 4 e)∧(↑(0+List.length [AV.agg [AV.str p,AV.str x.2,AV.int .i8 2,AV.int .i64 i]]):Int)*48≤140737488355328∧0+List.length [AV.agg [AV.str p,AV.str x.2,AV.int .i8 2,AV.int .i64 i]]≤9223372036854775807 from by simp) rT rT rT rT)⟩
 ·exact ⟨Out.normal,St.mk [] [(100000,Ob.var [AV.str p,AV.seq (List.map Ar.av hd) false,AV.seq (List.map Li.av bd) false]),(100001,Ob.var [AV.int .i8 k]),(100002,Ob.var [AV.int .i64 i]),(100003,Ob.var [AV.row 60022 0 (0+List.length [AV.agg [AV.str p,AV.str x.2,AV.int .i8 k,AV.int .i64 i]])]),(60022,Ob.row 4 [AV.agg [AV.str p,AV.str x.2,AV.int .i8 k,AV.int .i64 i]])],⟨rfl,⟨_,_,_,_⟩,rfl⟩,gA 60000 [.is false,.is true] [] [K1 100000,K1 100001,K1 100002,K0 100003,K1 60022] (by kernel_rfl) (aC6 h0 (show 1≤List.length [AV.agg [AV.str p,AV.str x.2,AV.int .i8 k,AV.int .i64 i]]∧[AV.agg [AV.str p,AV.str x.2,AV.int .i8 k,AV.int .i64 i]]≠[]∧(∀(e:AV),e∈[AV.agg [AV.str p,AV.str x.2,AV.int .i8 k,AV.int .i64 i]]→okE 4 e)∧(∀(e:AV),e∈[]→okE 4 e)∧(↑(0+List.length [AV.agg [AV.str p,AV.str x.2,AV.int .i8 k,AV.int .i64 i]]):Int)*48≤140737488355328∧0+List.length [AV.agg [AV.str p,AV.str x.2,AV.int .i8 k,AV.int .i64 i]]≤9223372036854775807 from by simp) rT rT rT rT)⟩
theorem w221c (x:Li) (p:ByteArray) (hd:List Ar) (bd:List Li) (k i:Int) (es:List Ed) (hl:es.length<1000000000):En 23 (bodyOf Tryz.f221) ⟨[(0,x.av),(1,.elt 100000 0 0),(2,.elt 100001 0 0),(3,.elt 100002 0 0),(4,.elt 100003 0 0)],[(100000,.var [.str p,.seq (hd.map Ar.av) false,.seq (bd.map Li.av) false]),(100001,.var [.int .i8 k]),(100002,.var [.int .i64 i]),(100003,.var [.row 60500 0 (es.map Ed.av).length]),(60500,.row 4 (es.map Ed.av))]⟩ (fun e t=>e= .normal∧∃y:Ed,t=⟨[],[(100000,.var [.str p,.seq (hd.map Ar.av) false,.seq (bd.map Li.av) false]),(100001,.var [.int .i8 k]),(100002,.var [.int .i64 i]),(100003,.var [.row 60022 0 ((es.map Ed.av).length+1)]),(60022,.row 4 (es.map Ed.av++[y.av]))]⟩):=by
 rcases bft (decide (Li.k x=2)) with h0|h0
 ·exact ⟨Out.normal,St.mk [] [(100000,Ob.var [AV.str p,AV.seq (List.map Ar.av hd) false,AV.seq (List.map Li.av bd) false]),(100001,Ob.var [AV.int .i8 k]),(100002,Ob.var [AV.int .i64 i]),(100003,Ob.var [AV.row 60022 0 (List.length (List.map Ed.av es)+List.length [AV.agg [AV.str p,AV.str x.2,AV.int .i8 2,AV.int .i64 i]])]),(60022,Ob.row 4 (List.map Ed.av es++[AV.agg [AV.str p,AV.str x.2,AV.int .i8 2,AV.int .i64 i]]))],⟨rfl,⟨_,_,_,_⟩,rfl⟩,gA 60000 [.is true,.is true] [] [K1 100000,K1 100001,K1 100002,K0 100003,K1 60022] (by kernel_rfl) (aC6 h0 (show (1:Nat)≤List.length [AV.agg [AV.str p,AV.str x.2,AV.int .i8 (2:Int),AV.int .i64 i]]∧(0:Nat)=(0:Nat)∧List.length (es.map Ed.av)=List.length (es.map Ed.av)∧(∀(e:AV),e∈[AV.agg [AV.str p,AV.str x.2,AV.int .i8 (2:Int),AV.int .i64 i]]→okE (4:Nat) e)∧(∀(e:AV),e∈List.map Ed.av es→okE (4:Nat) e)∧(↑(List.length (es.map Ed.av)+List.length [AV.agg [AV.str p,AV.str x.2,AV.int .i8 (2:Int),AV.int .i64 i]]):Int)*(48:Int)≤(140737488355328:Int)∧List.length (es.map Ed.av)+List.length [AV.agg [AV.str p,AV.str x.2,AV.int .i8 (2:Int),AV.int .i64 i]]≤(9223372036854775807:Nat) from by simp;omega) rT rT rT (show noIdsL (List.map Ed.av es++[AV.agg [AV.str p,AV.str x.2,AV.int .i8 2,AV.int .i64 i]])=true from by simp))⟩
 ·exact ⟨Out.normal,St.mk [] [(100000,Ob.var [AV.str p,AV.seq (List.map Ar.av hd) false,AV.seq (List.map Li.av bd) false]),(100001,Ob.var [AV.int .i8 k]),(100002,Ob.var [AV.int .i64 i]),(100003,Ob.var [AV.row 60022 0 (List.length (List.map Ed.av es)+List.length [AV.agg [AV.str p,AV.str x.2,AV.int .i8 k,AV.int .i64 i]])]),(60022,Ob.row 4 (List.map Ed.av es++[AV.agg [AV.str p,AV.str x.2,AV.int .i8 k,AV.int .i64 i]]))],⟨rfl,⟨_,_,_,_⟩,rfl⟩,gA 60000 [.is false,.is true] [] [K1 100000,K1 100001,K1 100002,K0 100003,K1 60022] (by kernel_rfl) (aC6 h0 (show (1:Nat)≤List.length [AV.agg [AV.str p,AV.str x.2,AV.int .i8 k,AV.int .i64 i]]∧(0:Nat)=(0:Nat)∧List.length (es.map Ed.av)=List.length (es.map Ed.av)∧(∀(e:AV),e∈[AV.agg [AV.str p,AV.str x.2,AV.int .i8 k,AV.int .i64 i]]→okE (4:Nat) e)∧(∀(e:AV),e∈List.map Ed.av es→okE (4:Nat) e)∧(↑(List.length (es.map Ed.av)+List.length [AV.agg [AV.str p,AV.str x.2,AV.int .i8 k,AV.int .i64 i]]):Int)*(48:Int)≤(140737488355328:Int)∧List.length (es.map Ed.av)+List.length [AV.agg [AV.str p,AV.str x.2,AV.int .i8 k,AV.int .i64 i]]≤(9223372036854775807:Nat) from by simp;omega) rT rT rT (show noIdsL (List.map Ed.av es++[AV.agg [AV.str p,AV.str x.2,AV.int .i8 k,AV.int .i64 i]])=true from by simp))⟩
theorem close221 {P:Program} {n m:Nat} {c:Code} {st:St} {e:Out} {p:ByteArray} {hd:List Ar} {bd:List Li} {k i:Int} {es:List Ed} (h:Runs P n c st e ⟨[],[Z260 p hd bd,Z261 k,Z262 i,(100003,.var [.row 60022 0 m]),(60022,.row 4 (es.map Ed.av))]⟩)
  (hm:m=(es.map Ed.av).length) (h0:0<m):Runs P n c st e ⟨[],ep p hd bd k i es⟩:=by
 subst hm
 have ht:(es.map Ed.av).take (es.map Ed.av).length=es.map Ed.av:=List.take_length
 have a:=h.post (le_close (n:=n) (st:=⟨[],[Z260 p hd bd,Z261 k,Z262 i,(100003,.var [.row 60022 0 (es.map Ed.av).length]),(60022,.row 4 (es.map Ed.av))]⟩) 100003 0 60022 (o:= .var [.row 60022 0 (es.map Ed.av).length]) rfl rfl rfl h0 (Nat.le_refl _) (by rw [ht];exact noIdsL_eds es) (by simp [mid]))
 rw [ht] at a
 exact a.keepR [] [K1 100000,K1 100001,K1 100002,K0 100003] (cs:=[noIdsL [AV.str p,.seq (hd.map Ar.av) false,.seq (bd.map Li.av) false]=true,noIdsL [AV.int .i8 k]=true,noIdsL [AV.int .i64 i]=true]) rfl ⟨rfl,rfl,rfl,trivial⟩
theorem obs_ep (es:List Ed):∀id o,(id,o)∈ep p hd bd k i es→renOb (idT (ep p hd bd k i es)) o=o:=by
 intro id o hm
 simp only [ep,List.mem_cons,Prod.mk.injEq,List.not_mem_nil,or_false] at hm
 rcases hm with ⟨rfl,rfl⟩|⟨rfl,rfl⟩|⟨rfl,rfl⟩|⟨rfl,rfl⟩<;>rfl
theorem k221 (x:Li) (p:ByteArray) (hd:List Ar) (bd:List Li) (k i:Int) (es:List Ed) (hl:es.length<1000000000):
  ∃es':List Ed,Sp 221 [x.av,.elt 100000 0 0,.elt 100001 0 0,.elt 100002 0 0,.elt 100003 0 0] (ep p hd bd k i es) (.tup []) (ep p hd bd k i es')∧es'.length≤es.length+1:=by
 by_cases hn:es=[]
 ·subst hn
  obtain ⟨e,t,⟨rfl,y,rfl⟩,h⟩:=w221n x p hd bd k i
  have h2:=close221 (es:=[y]) h rfl (by simp)
  have h3:=h2.pre (le_openNil (st:=⟨_,ep p hd bd k i []⟩) 100003 0 (sz:=4) rfl rfl)
  exact ⟨[y],sG Tryz.f221 (obs_ep p hd bd k i []) h3 (.inl rfl),by simp⟩
 ·obtain ⟨e,t,⟨rfl,y,rfl⟩,h⟩:=w221c x p hd bd k i es hl
  rw [show es.map Ed.av++[y.av]=(es++[y]).map Ed.av from by simp] at h
  have h2:=close221 (es:=es++[y]) h (by simp) (by simp)
  have h3:=h2.pre (le_open (st:=⟨_,ep p hd bd k i es⟩) 100003 0 60500 (sz:=4) rfl rfl (by simpa using hn) rfl (by simp [mid]))
  exact ⟨es++[y],sG Tryz.f221 (obs_ep p hd bd k i es) h3 (.inl rfl),by simp⟩
abbrev Z263:Nat×AV:=(6,.seq (l.map Li.av) false)
abbrev Z264:Nat×AV:=(7,.int .i64 ((l.map Li.av).length:Nat))
abbrev Z265:Nat×AV:=(1,.clo 221 [] [.elt 100000 0 0,.elt 100001 0 0,.elt 100002 0 0,.elt 100003 0 0])
abbrev Z266:Nat×AV:=(7,.int .i64 (↑(l.map Li.av).length:Int))
abbrev Z267 (j:Nat):Nat×AV:=(8,.int .i64 ((j:Int)+1))
theorem t220 (es:List Ed) (j:Nat) (hi:j<l.length) (hl:es.length<1000000000) (hsm:l.length≤9223372036854775807):En 24 (loopOf Tryz.f220 0) ⟨[(1,.clo 221 [] [.elt 100000 0 0,.elt 100001 0 0,.elt 100002 0 0,.elt 100003 0 0]),Z263 l,Z264 l,(8,.int .i64 (j:Int))],ep p hd bd k i es⟩ (fun e t=>e= .normal∧∃es':List Ed,t=⟨[(1,.clo 221 [] [.elt 100000 0 0,.elt 100001 0 0,.elt 100002 0 0,.elt 100003 0 0]),Z263 l,Z264 l,(8,.int .i64 ((j+1:Nat):Int))],ep p hd bd k i es'⟩∧es'.length≤es.length+1):=by
 obtain ⟨x0,hm0,hx0⟩:=elt_of Li.av (l:=l) (n:=(↑j:Int)) (by omega) (by omega)
 rcases bft (decide (x0.1=1)) with h1|h1
 ·obtain ⟨r2,⟨hs3,hs3'⟩⟩:=k221 x0 p hd bd k i es (by assumption)
  exact ⟨Out.normal,St.mk [Z265,Z263 l,Z266 l,Z267 j] [Z260 p hd bd,Z261 k,Z262 i,(100003,.var [.own 4 (r2.map Ed.av)])],by first|exact ⟨rfl,_,rfl,Nat.le_succ _⟩|exact ⟨rfl,_,rfl,by assumption⟩,gA 60000 [.is true,.elt (.agg x0.cells),.is true,.call (.tup []) [100000,100001,100002,100003] [Z260 p hd bd,Z261 k,Z262 i,(100003,.var [.own 4 (r2.map Ed.av)])]] [1,6,7,8] [K1 100000,K1 100001,K1 100002,K0 100003] (by kernel_rfl) (aC8 (d1 Li.av l j (by omega)) hx0 h1 hs3 (w1 j (by omega)) rT rT rT)⟩
 ·rcases bft (decide (x0.1=2)) with h2|h2
  ·obtain ⟨r3,⟨hs4,hs4'⟩⟩:=k221 x0 p hd bd k i es (by assumption)
   exact ⟨Out.normal,St.mk [Z265,Z263 l,Z266 l,Z267 j] [Z260 p hd bd,Z261 k,Z262 i,(100003,.var [.own 4 (r3.map Ed.av)])],by first|exact ⟨rfl,_,rfl,Nat.le_succ _⟩|exact ⟨rfl,_,rfl,by assumption⟩,gA 60000 [.is true,.elt (.agg x0.cells),.is false,.is true,.call (.tup []) [100000,100001,100002,100003] [Z260 p hd bd,Z261 k,Z262 i,(100003,.var [.own 4 (r3.map Ed.av)])]] [1,6,7,8] [K1 100000,K1 100001,K1 100002,K0 100003] (by kernel_rfl) (aC9 (d1 Li.av l j (by omega)) hx0 h1 h2 hs4 (w1 j (by omega)) rT rT rT)⟩
  ·exact ⟨Out.normal,St.mk [Z265,Z263 l,Z266 l,Z267 j] [Z260 p hd bd,Z261 k,Z262 i,(100003,.var [.own 4 (es.map Ed.av)])],by first|exact ⟨rfl,_,rfl,Nat.le_succ _⟩|exact ⟨rfl,_,rfl,by assumption⟩,gA 60000 [.is true,.elt (.agg x0.cells),.is false,.is false] [1,6,7,8] [K1 100000,K1 100001,K1 100002,K0 100003] (by kernel_rfl) (aC8 (d1 Li.av l j (by omega)) hx0 h1 h2 (w1 j (by omega)) rT rT rT)⟩
theorem e220 (es:List Ed):En 24 (loopOf Tryz.f220 0) ⟨[(1,.clo 221 [] [.elt 100000 0 0,.elt 100001 0 0,.elt 100002 0 0,.elt 100003 0 0]),Z263 l,Z264 l,(8,.int .i64 ((l.length:Nat):Int))],ep p hd bd k i es⟩ (fun e t=>e= .exit 0∧t=⟨[],ep p hd bd k i es⟩):=by
 exact gE ⟨rfl,rfl⟩ 60000 [.is false] [] [K1 100000,K1 100001,K1 100002,K0 100003] (aC4 (show decide ((↑l.length:Int)<(↑(l.map Li.av).length:Int))=false from by simp) rT rT rT)
theorem l220_0 (es:List Ed) (hl:es.length+l.length<1000000000):
  ∃es':List Ed,Lo 24 (loopOf Tryz.f220 0) ⟨[(1,.clo 221 [] [.elt 100000 0 0,.elt 100001 0 0,.elt 100002 0 0,.elt 100003 0 0]),Z263 l,Z264 l,(8,.int .i64 0)],ep p hd bd k i es⟩ (.exit 0) ⟨[],ep p hd bd k i es'⟩∧es'.length≤es.length+l.length:=by
 refine (fun ⟨g,h1,h⟩=>⟨g,h,h1⟩) (inv_loop0 (P:=Tryz.prog) (n:=24) (c:=loopOf Tryz.f220 0) (N:=l.length) (k:=0) (γ:=List Ed) (fun j g=>⟨[(1,.clo 221 [] [.elt 100000 0 0,.elt 100001 0 0,.elt 100002 0 0,.elt 100003 0 0]),Z263 l,Z264 l,(8,.int .i64 (j:Int))],ep p hd bd k i g⟩) (fun g=>⟨[],ep p hd bd k i g⟩)
  (fun j g=>g.length≤es.length+j) (fun j g hj hg=> ?_) (fun g hg=>e220 l p hd bd k i g) es (by simp))
 obtain ⟨e,t,⟨rfl,es',rfl,h1⟩,h⟩:=t220 l p hd bd k i g j hj (by omega) (by omega)
 exact ⟨_,_,⟨rfl,es',by omega,rfl⟩,h⟩
theorem b220 (es es':List Ed) (l220_0q:Lo 24 (loopOf Tryz.f220 0) ⟨[(1,.clo 221 [] [.elt 100000 0 0,.elt 100001 0 0,.elt 100002 0 0,.elt 100003 0 0]),Z263 l,Z264 l,(8,.int .i64 0)],ep p hd bd k i es⟩ (.exit 0) ⟨[],ep p hd bd k i es'⟩):EN 24 (bodyOf Tryz.f220) ⟨[(0,.seq (l.map Li.av) false),(1,.clo 221 [] [.elt 100000 0 0,.elt 100001 0 0,.elt 100002 0 0,.elt 100003 0 0])],ep p hd bd k i es⟩ ⟨[],ep p hd bd k i es'⟩:=by
 have hl0:=l220_0q
 exact gE ⟨rfl,rfl⟩ 60000 [.cut [1,6,7,8] [K1 100000,K1 100001,K1 100002,K1 100003],.sum (.exit 0) [] (ep p hd bd k i es')] [] [K1 100000,K1 100001,K1 100002,K0 100003] (aC8 rT rT rT rT hl0 rT rT rT)
theorem k220x (es:List Ed) (hl:es.length+l.length<1000000000):
  ∃es':List Ed,Sp 220 [.seq (l.map Li.av) false,.clo 221 [] [.elt 100000 0 0,.elt 100001 0 0,.elt 100002 0 0,.elt 100003 0 0]] (ep p hd bd k i es) (.tup []) (ep p hd bd k i es')∧es'.length≤es.length+l.length:=by
 obtain ⟨es',hL,h1⟩:=l220_0 l p hd bd k i es hl
 obtain ⟨e,t,⟨rfl,rfl⟩,h⟩:=b220 l p hd bd k i es es' hL
 exact ⟨es',sG Tryz.f220 (obs_ep p hd bd k i es) h (.inl rfl),h1⟩
abbrev Z268 (es:List Ed):Nat×Ob:=(3,.var [.own 4 (es.map Ed.av)])
def eq (p:ByteArray) (hd:List Ar) (bd:List Li) (k i:Int) (es:List Ed):List (Nat×Ob):=[(5,.var [.str p,.seq (hd.map Ar.av) false,.seq (bd.map Li.av) false]),(6,.var [.int .i8 k]),(4,.var [.int .i64 i]),Z268 es]
theorem k220 (es:List Ed) (hl:es.length+l.length<1000000000):
  ∃es':List Ed,Sp 220 [.seq (l.map Li.av) false,.clo 221 [] [.elt 5 0 0,.elt 6 0 0,.elt 4 0 0,.elt 3 0 0]] (eq p hd bd k i es) (.tup []) (eq p hd bd k i es')∧es'.length≤es.length+l.length:=by
 obtain ⟨es',h,h1⟩:=k220x l p hd bd k i es hl
 exact ⟨es',h.renum [(100000,5,.var [.str p,.seq (hd.map Ar.av) false,.seq (bd.map Li.av) false]),(100001,6,.var [.int .i8 k]),(100002,4,.var [.int .i64 i]),(100003,3,.var [.own 4 (es.map Ed.av)])] [(100000,5),(100001,6),(100002,4),(100003,3)] rfl rfl rfl,h1⟩
abbrev Z269:Nat×AV:=(3,.elt 3 0 0)
abbrev Z26a:Nat×AV:=(8,.seq (rs.map Ru.av) false)
abbrev Z26b:Nat×AV:=(9,.int .i64 ((rs.map Ru.av).length:Nat))
abbrev Z26c:Nat×AV:=(9,.int .i64 (↑(rs.map Ru.av).length:Int))
abbrev Z26d (i:Nat):Nat×AV:=(10,.int .i64 ((i:Int)+1))
abbrev Z26e (i:Nat):Nat×Ob:=(4,.var [.int .i64 (i:Int)])
theorem t185 (es:List Ed) (i:Nat) (hi:i<rs.length) (hl:es.length+16<1000000000) (hb:∀r:Ru,r∈rs→r.bd.length≤16) (hsm:rs.length≤2000000):En 25 (loopOf Tryz.f185 0) ⟨[Z269,Z26a rs,Z26b rs,(10,.int .i64 (i:Int))],[Z268 es]⟩ (fun e t=>e= .normal∧∃es':List Ed,t=⟨[Z269,Z26a rs,Z26b rs,(10,.int .i64 ((i+1:Nat):Int))],[(3,.var [.own 4 (es'.map Ed.av)])]⟩∧es'.length≤es.length+16):=by
 obtain ⟨x0,hm0,hx0⟩:=elt_of Ru.av (l:=rs) (n:=(↑i:Int)) (by omega) (by omega)
 obtain ⟨r1,hs2⟩:=k184 x0.1 x0.2 x0.3
 cases r1 with
 |true=>
  obtain ⟨r3,⟨hs4,hs4'⟩⟩:=k220 x0.3 x0.1 x0.2 x0.3 3 ((↑i:Int)) (es) (by (have hq:=hb _ (List.mem_of_getElem? hm0);omega))
  exact ⟨Out.normal,St.mk [Z269,Z26a rs,Z26c rs,Z26d i] [(3,.var [.own 4 (r3.map Ed.av)])],⟨rfl,_,rfl,by have hq:=hb _ (List.mem_of_getElem? hm0);omega⟩,gA 0 [.is true,.elt (.agg [.str x0.1,.seq (List.map Ar.av x0.2) false,.seq (List.map Li.av x0.3) false]),.call (.bool true) [] [],.call (.tup []) [5,6,4,3] [(5,.var [.str x0.1,.seq (List.map Ar.av x0.2) false,.seq (List.map Li.av x0.3) false]),(6,.var [.int .i8 3]),Z26e i,(3,.var [.own 4 (r3.map Ed.av)])]] [3,8,9,10] [K0 3] (by kernel_rfl) (aC5 (d1 Ru.av rs i (by omega)) hx0 hs2 hs4 (w1 i (by omega)))⟩
 |false=>
  obtain ⟨r3,hs4⟩:=k134 x0.1 x0.2 x0.3
  cases r3 with
  |true=>
   obtain ⟨r5,⟨hs6,hs6'⟩⟩:=k220 x0.3 x0.1 x0.2 x0.3 4 ((↑i:Int)) (es) (by (have hq:=hb _ (List.mem_of_getElem? hm0);omega))
   exact ⟨Out.normal,St.mk [Z269,Z26a rs,Z26c rs,Z26d i] [(3,.var [.own 4 (r5.map Ed.av)])],⟨rfl,_,rfl,by have hq:=hb _ (List.mem_of_getElem? hm0);omega⟩,gA 0 [.is true,.elt (.agg [.str x0.1,.seq (List.map Ar.av x0.2) false,.seq (List.map Li.av x0.3) false]),.call (.bool false) [] [],.call (.bool true) [] [],.call (.tup []) [5,6,4,3] [(5,.var [.str x0.1,.seq (List.map Ar.av x0.2) false,.seq (List.map Li.av x0.3) false]),(6,.var [.int .i8 4]),Z26e i,(3,.var [.own 4 (r5.map Ed.av)])]] [3,8,9,10] [K0 3] (by kernel_rfl) (aC6 (d1 Ru.av rs i (by omega)) hx0 hs2 hs4 hs6 (w1 i (by omega)))⟩
  |false=>
   obtain ⟨r5,⟨hs6,hs6'⟩⟩:=k220 x0.3 x0.1 x0.2 x0.3 1 ((↑i:Int)) (es) (by (have hq:=hb _ (List.mem_of_getElem? hm0);omega))
   exact ⟨Out.normal,St.mk [Z269,Z26a rs,Z26c rs,Z26d i] [(3,.var [.own 4 (r5.map Ed.av)])],⟨rfl,_,rfl,by have hq:=hb _ (List.mem_of_getElem? hm0);omega⟩,gA 0 [.is true,.elt (.agg [.str x0.1,.seq (List.map Ar.av x0.2) false,.seq (List.map Li.av x0.3) false]),.call (.bool false) [] [],.call (.bool false) [] [],.call (.tup []) [5,6,4,3] [(5,.var [.str x0.1,.seq (List.map Ar.av x0.2) false,.seq (List.map Li.av x0.3) false]),(6,.var [.int .i8 1]),Z26e i,(3,.var [.own 4 (r5.map Ed.av)])]] [3,8,9,10] [K0 3] (by kernel_rfl) (aC6 (d1 Ru.av rs i (by omega)) hx0 hs2 hs4 hs6 (w1 i (by omega)))⟩
abbrev Z26h (es:List Ed):St:=⟨[Z269],[Z268 es]⟩
theorem e185 (es:List Ed):En 25 (loopOf Tryz.f185 0) ⟨[Z269,Z26a rs,Z26b rs,(10,.int .i64 ((rs.length:Nat):Int))],[Z268 es]⟩ (fun e t=>e= .exit 0∧t=(Z26h es)):=by
 exact gE ⟨rfl,rfl⟩ 0 [.is false] [3] [K0 3] (aC1 (zs40eu rs))
abbrev Z26f:Nat×Ob:=(3,.var [.own 4 []])
abbrev Z26i:St:=⟨[Z269,Z26a rs,Z26b rs,(10,.int .i64 0)],[Z26f]⟩
theorem l185_0 (hb:∀r:Ru,r∈rs→r.bd.length≤16) (hsm:rs.length≤2000000):
  ∃es:List Ed,Lo 25 (loopOf Tryz.f185 0) (Z26i rs) (.exit 0) (Z26h es)∧es.length≤16*rs.length:=by
 refine (fun ⟨g,h1,h⟩=>⟨g,h,h1⟩) (inv_loop0 (P:=Tryz.prog) (n:=25) (c:=loopOf Tryz.f185 0) (N:=rs.length) (k:=0) (γ:=List Ed) (fun j g=>⟨[Z269,Z26a rs,Z26b rs,(10,.int .i64 (j:Int))],[(3,.var [.own 4 (g.map Ed.av)])]⟩) (fun g=>⟨[Z269],[(3,.var [.own 4 (g.map Ed.av)])]⟩)
  (fun j g=>g.length≤16*j) (fun j g hj hg=> ?_) (fun g hg=>e185 rs g) [] (by simp))
 obtain ⟨e,t,⟨rfl,es',rfl,h1⟩,h⟩:=t185 rs g j hj (by omega) hb hsm
 exact ⟨_,_,⟨rfl,es',by omega,rfl⟩,h⟩
abbrev Z26g:Nat×AV:=(1,.tptr [.seq (rs.map Ru.av) false])
theorem w185a:EN 25 (partC 0 (bodyOf Tryz.f185)) ⟨[(0,.agg [.seq (rs.map Ru.av) false])],[]⟩ ⟨[Z26g rs,(2,.nils)],[]⟩:=by
 exact gE ⟨rfl,rfl⟩ 0 [] [1,2] [(1,.freeze)] (aC1 rT)
theorem w185b:EN 25 (partC 1 (bodyOf Tryz.f185)) ⟨[Z26g rs,(2,.nils)],[]⟩ ⟨[Z26g rs,(2,.nils),Z269],[(3,.var [.nils])]⟩:=by
 exact gE ⟨rfl,rfl⟩ 0 [] [1,2,3] [K1 3] (aC1 rT)
theorem w185d (es:List Ed) (l185_0q:Lo 25 (loopOf Tryz.f185 0) (Z26i rs) (.exit 0) (Z26h es)):EN 25 (partC 2 (bodyOf Tryz.f185)) ⟨[Z26g rs,(2,.nils),Z269],[Z26f]⟩ (Z26h es):=by
 have hl0:=l185_0q
 exact gE ⟨rfl,rfl⟩ 0 [.cut [3,8,9,10] [K1 3],.sum (.exit 0) [Z269] [Z268 es]] [3] [K0 3] (aC2 rT hl0)
theorem w185n:En 25 (restC 3 (bodyOf Tryz.f185)) ⟨[Z269],[(3,.var [.nils])]⟩ (fun e t=>e= .ret∧t=⟨[(2,.nils)],[]⟩):=by
 exact ⟨Out.ret,St.mk [(2,AV.nils)] [],⟨rfl,rfl⟩,gA 0 [] [2] [] (by kernel_rfl) (aN)⟩
theorem w185r (es:List Ed):En 25 (restC 3 (bodyOf Tryz.f185)) ⟨[Z269],[(3,.var [.row 50 0 (es.map Ed.av).length]),(50,.row 4 (es.map Ed.av))]⟩ (fun e t=>e= .ret∧t=⟨[(2,.seq (es.map Ed.av) false)],[]⟩):=by
 exact gE ⟨rfl,rfl⟩ 0 [] [2] [(50,.freeze)] (aC2 (show List.length (es.map Ed.av)=List.length (es.map Ed.av) from rfl) (show noIdsL (es.map Ed.av)=true from by simp))
theorem k185 (hb:∀r:Ru,r∈rs→r.bd.length≤16) (hsm:rs.length≤2000000):∃es:List Ed,Sp 185 [.agg [.seq (rs.map Ru.av) false]] [] (.seq (es.map Ed.av) false) []∧es.length≤100000000:=by
 obtain ⟨es,hL,h1⟩:=l185_0 rs hb hsm
 obtain ⟨e,s,⟨rfl,rfl⟩,r0⟩:=w185a rs
 obtain ⟨e,s,⟨rfl,rfl⟩,r1⟩:=w185b rs
 obtain ⟨e,s,⟨rfl,rfl⟩,r3⟩:=w185d rs es hL
 have r1':=r1.post (le_closeNil (st:=⟨_,[(3,.var [.nils])]⟩) 3 0 4 rfl rfl)
 refine ⟨es,?_,by omega⟩
 cases es with
 |nil=>
  obtain ⟨e,s,⟨rfl,rfl⟩,r4⟩:=w185n
  have r4':=r4.pre (le_openNil (st:=⟨[Z269],[Z26f]⟩) 3 0 (sz:=4) rfl rfl)
  exact Spec.wkR (sQ Tryz.f185 (Runs.nth 0 (by kernel_rfl) r0 (Runs.nth 1 (by kernel_rfl) r1' (Runs.nth 2 (by kernel_rfl) r3 r4')))) .nils
 |cons y q=>
  obtain ⟨e,s,⟨rfl,rfl⟩,r4⟩:=w185r (y::q)
  have r4':=r4.pre (le_open (st:=⟨[Z269],[(3,.var [.own 4 ((y::q).map Ed.av)])]⟩) 3 0 50 (sz:=4) rfl rfl (by simp) rfl (by simp [mid]))
  exact sQ Tryz.f185 (Runs.nth 0 (by kernel_rfl) r0 (Runs.nth 1 (by kernel_rfl) r1' (Runs.nth 2 (by kernel_rfl) r3 r4')))
end
section
variable (rs:List Ru) (es:List Ed) (ks:List ByteArray) (y:Ru) (i:Nat)
attribute [simp] noIdsL_strs
theorem noIdsL_set {l:List AV} {j:Nat} {x:AV} (h:noIdsL l=true) (h2:noIds x=true):noIdsL (l.set j x)=true:=noIdsL_iff.2 fun y hy=>by
 rcases List.mem_or_eq_of_mem_set hy with h3|h3
 ·exact noIdsL_iff.1 h y h3
 ·rw [h3];exact h2
@[simp] theorem noIdsL_es (l:List ByteArray):noIdsL (l.map fun _=>AV.agg [])=true:=noIdsL_of (fun _=>AV.agg []) (fun _=>rfl) l
@[simp] theorem noIdsL_setS (l:List ByteArray) (j:Nat) (s:ByteArray):noIdsL ((l.map AV.str).set j (.str s))=true:=noIdsL_set (noIdsL_strs l) rfl
@[simp] theorem noIdsL_setE (l:List ByteArray) (j:Nat):noIdsL ((l.map fun _=>AV.agg []).set j (.agg []))=true:=noIdsL_set (noIdsL_es l) rfl
theorem set_self {α:Type}:∀{l:List α} {j:Nat} {x:α},l[j]? =some x→l.set j x=l
 |[],j,x,h=>rfl
 |y::r,0,x,h=>by simp at h;simp [h]
 |y::r,j+1,x,h=>by simp at h;simp [set_self h]
abbrev Z270:Nat×AV:=(0,.seq (rs.map Ru.av) false)
abbrev Z271:Nat×AV:=(11,.seq (rs.map Ru.av) false)
abbrev Z272:Nat×AV:=(12,.int .i64 ((rs.map Ru.av).length:Nat))
abbrev Z273:Nat×AV:=(13,.int .i64 (i:Int))
abbrev Z274:Nat×AV:=(13,.int .i64 ((i+1:Nat):Int))
abbrev Z27e:List (Nat×AV):=[Z270 rs,(3,.map 10),Z271 rs,Z272 rs,Z273 i]
abbrev Z27f:List (Nat×AV):=[Z270 rs,(3,.map 10),Z271 rs,Z272 rs,Z274 i]
theorem t135o (j:Nat) (i:Nat) (hi:i<rs.length) (hsm:rs.length≤2000000) (hx:0≤(i:Int)∧(rs.map Ru.av)[Int.toNat (i:Int)]? =some y.av) (k184:Sp 184 [y.av] [] (.bool false) []) (hf:findA true (.str y.p) (ks.map AV.str) 0=some (some j)):EN 46 (loopOf Tryz.f135 0) ⟨(Z27e rs i),[(10,.map (ks.map AV.str) (ks.map fun _=>.agg []))]⟩ ⟨(Z27f rs i),[(10,.map ((ks.map AV.str).set j (.str y.p)) ((ks.map fun _=>.agg []).set j (.agg [])))]⟩:=by
 exact gE ⟨rfl,rfl⟩ 0 [.is true,.elt (Ru.av y),.call (.bool false) [] [],.elt (.int .i64 (j:Int))] [0,3,11,12,13] [K1 10] (aC6 (d1 Ru.av rs i (by omega)) hx k184 hf (w1 i (by omega)) (show noIdsL (List.set (ks.map AV.str) (Int.toNat (j:Int)) (AV.str y.1))=true∧noIdsL (List.set (List.map (fun (x:ByteArray)=>AV.agg []) ks) (Int.toNat (j:Int)) (AV.agg []))=true from by simp))
theorem t135n (hi:i<rs.length) (hsm:rs.length≤2000000) (hx:0≤(i:Int)∧(rs.map Ru.av)[Int.toNat (i:Int)]? =some y.av) (k184:Sp 184 [y.av] [] (.bool false) []) (hf:findA true (.str y.p) (ks.map AV.str) 0=some none):EN 46 (loopOf Tryz.f135 0) ⟨(Z27e rs i),[(10,.map (ks.map AV.str) (ks.map fun _=>.agg []))]⟩ ⟨(Z27f rs i),[(10,.map (ks.map AV.str++[.str y.p]) ((ks.map fun _=>.agg [])++[.agg []]))]⟩:=by
 exact gE ⟨rfl,rfl⟩ 0 [.is true,.elt (Ru.av y),.call (.bool false) [] [],.is false] [0,3,11,12,13] [K1 10] (aC6 (d1 Ru.av rs i (by omega)) hx k184 hf (w1 i (by omega)) (show noIdsL (List.map AV.str ks++[AV.str y.1])=true∧noIdsL (List.map (fun (x:ByteArray)=>AV.agg []) ks++[AV.agg []])=true from by simp))
abbrev Z275:Nat×AV:=(2,.bool false)
abbrev Z27c:St:=⟨[Z275],[]⟩
theorem t135r (hi:i<rs.length) (hsm:rs.length≤2000000) (hx:0≤(i:Int)∧(rs.map Ru.av)[Int.toNat (i:Int)]? =some y.av) (k184:Sp 184 [y.av] [] (.bool true) []):En 46 (loopOf Tryz.f135 0) ⟨(Z27e rs i),[(10,.map (ks.map AV.str) (ks.map fun _=>.agg []))]⟩ (fun e t=>e= .ret∧t=Z27c):=by
 exact gE ⟨rfl,rfl⟩ 0 [.is true,.elt (Ru.av y),.call (.bool true) [] []] [2] [] (aC3 (d1 Ru.av rs i (by omega)) hx k184)
abbrev Z27g:List (Nat×AV):=[Z270 rs,(3,.map 10)]
theorem e135:En 46 (loopOf Tryz.f135 0) ⟨[Z270 rs,(3,.map 10),Z271 rs,Z272 rs,(13,.int .i64 ((rs.length:Nat):Int))],[(10,.map (ks.map AV.str) (ks.map fun _=>.agg []))]⟩ (fun e t=>e= .exit 0∧t=⟨(Z27g rs),[(10,.map (ks.map AV.str) (ks.map fun _=>.agg []))]⟩):=by
 exact gE ⟨rfl,rfl⟩ 0 [.is false] [0,3] [K1 10] (aC2 (zs40eu rs) (show noIdsL (ks.map AV.str)=true∧noIdsL (List.map (fun (x:ByteArray)=>AV.agg []) ks)=true from by simp))
abbrev Z276:Nat×AV:=(26,.seq (es.map Ed.av) false)
abbrev Z277:Nat×AV:=(27,.int .i64 ((es.map Ed.av).length:Nat))
abbrev Z278:Nat×AV:=(28,.int .i64 (i:Int))
abbrev Z279:Nat×AV:=(28,.int .i64 ((i+1:Nat):Int))
abbrev Z27h:List (Nat×AV):=[(3,.map 10),Z276 es,Z277 es,Z278 i]
abbrev Z27i:List (Nat×AV):=[(3,.map 10),Z276 es,Z277 es,Z279 i]
theorem u135n (y:Ed) (i:Nat) (hi:i<es.length) (hsm:es.length≤100000000) (hx:0≤(i:Int)∧(es.map Ed.av)[Int.toNat (i:Int)]? =some y.av) (hf:findA true (.str y.t) (ks.map AV.str) 0=some none):EN 46 (loopOf Tryz.f135 1) ⟨(Z27h es i),[(10,.map (ks.map AV.str) (ks.map fun _=>.agg []))]⟩ ⟨(Z27i es i),[(10,.map (ks.map AV.str) (ks.map fun _=>.agg []))]⟩:=by
 exact gE ⟨rfl,rfl⟩ 0 [.is true,.elt (Ed.av y),.is false] [3,26,27,28] [K1 10] (aC5 (d1 Ed.av es i (by omega)) hx hf (w1 i (by omega)) (show noIdsL (ks.map AV.str)=true∧noIdsL (List.map (fun (x:ByteArray)=>AV.agg []) ks)=true from by simp))
theorem u135o (y:Ed) (i:Nat) (hi:i<es.length) (hsm:es.length≤100000000) (hx:0≤(i:Int)∧(es.map Ed.av)[Int.toNat (i:Int)]? =some y.av) (hf:∃j,findA true (.str y.t) (ks.map AV.str) 0=some (some j)∧(ks.map fun _=>AV.agg [])[j]? =some (.agg [])):En 46 (loopOf Tryz.f135 1) ⟨(Z27h es i),[(10,.map (ks.map AV.str) (ks.map fun _=>.agg []))]⟩ (fun e t=>(e= .ret∧t=Z27c)∨(e= .normal∧t=⟨(Z27i es i),[(10,.map (ks.map AV.str) (ks.map fun _=>.agg []))]⟩)):=by
 rcases bft (decide (Ed.k y=1)) with h0|h0
 ·exact gE (.inr ⟨rfl,rfl⟩) 0 [.is true,.elt (Ed.av y),.elt (.agg []),.is false] [3,26,27,28] [K1 10] (aC6 (d1 Ed.av es i (by omega)) hx hf (nF h0) (w1 i (by omega)) (show noIdsL (ks.map AV.str)=true∧noIdsL (List.map (fun (x:ByteArray)=>AV.agg []) ks)=true from by simp))
 ·exact gE (.inl ⟨rfl,rfl⟩) 0 [.is true,.elt (Ed.av y),.elt (.agg []),.is true] [2] [] (aC4 (d1 Ed.av es i (by omega)) hx hf (nT h0))
theorem f135:En 46 (loopOf Tryz.f135 1) ⟨[(3,.map 10),Z276 es,Z277 es,(28,.int .i64 ((es.length:Nat):Int))],[(10,.map (ks.map AV.str) (ks.map fun _=>.agg []))]⟩ (fun e t=>e= .exit 2∧t=⟨[],[]⟩):=by
 exact gE ⟨rfl,rfl⟩ 0 [.is false] [] [] (aC1 (show decide ((↑es.length:Int)<(↑(es.map Ed.av).length:Int))=false from by simp))
abbrev Z27a:Nat×AV:=(13,.int .i64 0)
abbrev Z27j:List (Nat×AV):=[Z270 rs,(3,.map 10),Z271 rs,Z272 rs,Z27a]
theorem l135_0 (hsm:rs.length≤2000000):(Lo 46 (loopOf Tryz.f135 0) ⟨(Z27j rs),[(10,.map (([]:List ByteArray).map AV.str) (([]:List ByteArray).map fun _=>.agg []))]⟩ .ret Z27c)∨∃ks:List ByteArray,Lo 46 (loopOf Tryz.f135 0) ⟨(Z27j rs),[(10,.map (([]:List ByteArray).map AV.str) (([]:List ByteArray).map fun _=>.agg []))]⟩ (.exit 0) ⟨(Z27g rs),[(10,.map (ks.map AV.str) (ks.map fun _=>.agg []))]⟩:=by
 have T:∀(i:Nat) (ks:List ByteArray),i<rs.length→True→En 46 (loopOf Tryz.f135 0) ⟨(Z27e rs i),[(10,.map (ks.map AV.str) (ks.map fun _=>.agg []))]⟩ (fun e s=>(e= .ret∧s=Z27c)∨(e= .normal∧∃g:List ByteArray,True∧s=⟨(Z27f rs i),[(10,.map (g.map AV.str) (g.map fun _=>.agg []))]⟩)):=by
  intro i ks hi _
  have hy:rs[i]? =some rs[i]:=List.getElem?_eq_getElem hi
  have hx:0≤(i:Int)∧(rs.map Ru.av)[Int.toNat (i:Int)]? =some (Ru.av rs[i]):=⟨by omega,get_of Ru.av hy⟩
  obtain ⟨rb,sp⟩:=k184 rs[i].p rs[i].hd rs[i].bd
  cases rb with
  |true=>
   obtain ⟨e,s,⟨rfl,rfl⟩,h⟩:=t135r rs ks rs[i] i hi hsm hx sp
   exact ⟨_,_,.inl ⟨rfl,rfl⟩,h⟩
  |false=>
   by_cases hk:rs[i].p∈ks
   ·obtain ⟨j,hf,hj⟩:=findA_some (i:=0) hk
    rw [Nat.zero_add] at hf
    obtain ⟨e,s,⟨rfl,rfl⟩,h⟩:=t135o rs ks rs[i] j i hi hsm hx sp hf
    rw [set_self (l:=ks.map AV.str) (by rw [List.getElem?_map,hj];rfl),set_self (l:=ks.map fun _=>AV.agg []) (by rw [List.getElem?_map,hj];rfl)] at h
    exact ⟨_,_,.inr ⟨rfl,ks,trivial,rfl⟩,h⟩
   ·obtain ⟨e,s,⟨rfl,rfl⟩,h⟩:=t135n rs ks rs[i] i hi hsm hx sp (findA_none hk)
    exact ⟨_,_,.inr ⟨rfl,ks++[rs[i].p],trivial,by simp⟩,h⟩
 rcases inv_loop (P:=Tryz.prog) (n:=46) (c:=loopOf Tryz.f135 0) (N:=rs.length) (k:=0) (γ:=List ByteArray) (fun i ks=>⟨(Z27e rs i),[(10,.map (ks.map AV.str) (ks.map fun _=>.agg []))]⟩) (fun ks=>⟨(Z27g rs),[(10,.map (ks.map AV.str) (ks.map fun _=>.agg []))]⟩) (fun s=>s=Z27c) (fun _ _=>True) T (fun ks _=>e135 rs ks) [] trivial with ⟨s,h,rfl⟩|⟨ks,_,h⟩
 ·exact .inl h
 ·exact .inr ⟨ks,h⟩
abbrev Z27b:Nat×AV:=(28,.int .i64 0)
abbrev Z27k:List (Nat×AV):=[(3,.map 10),Z276 es,Z277 es,Z27b]
theorem l135_1 (hsm:es.length≤100000000):(Lo 46 (loopOf Tryz.f135 1) ⟨(Z27k es),[(10,.map (ks.map AV.str) (ks.map fun _=>.agg []))]⟩ .ret Z27c)∨Lo 46 (loopOf Tryz.f135 1) ⟨(Z27k es),[(10,.map (ks.map AV.str) (ks.map fun _=>.agg []))]⟩ (.exit 2) ⟨[],[]⟩:=by
 have T:∀(i:Nat),i<es.length→En 46 (loopOf Tryz.f135 1) ⟨(Z27h es i),[(10,.map (ks.map AV.str) (ks.map fun _=>.agg []))]⟩ (fun e s=>(e= .ret∧s=Z27c)∨(e= .normal∧s=⟨(Z27i es i),[(10,.map (ks.map AV.str) (ks.map fun _=>.agg []))]⟩)):=by
  intro i hi
  have hy:es[i]? =some es[i]:=List.getElem?_eq_getElem hi
  have hx:0≤(i:Int)∧(es.map Ed.av)[Int.toNat (i:Int)]? =some (Ed.av es[i]):=⟨by omega,get_of Ed.av hy⟩
  by_cases hk:es[i].t∈ks
  ·obtain ⟨j,hf,hj⟩:=findA_some (i:=0) hk
   rw [Nat.zero_add] at hf
   exact u135o es ks es[i] i hi hsm hx ⟨j,hf,by rw [List.getElem?_map,hj];rfl⟩
  ·obtain ⟨e,s,⟨rfl,rfl⟩,h⟩:=u135n es ks es[i] i hi hsm hx (findA_none hk)
   exact ⟨_,_,.inr ⟨rfl,rfl⟩,h⟩
 rcases range_ex (P:=Tryz.prog) (n:=46) (c:=loopOf Tryz.f135 1) (N:=es.length) (k:=2) (fun i=>⟨(Z27h es i),[(10,.map (ks.map AV.str) (ks.map fun _=>.agg []))]⟩) ⟨[],[]⟩ (fun s=>s=Z27c) T (f135 es ks) with ⟨s,h,rfl⟩|h
 ·exact .inl h
 ·exact .inr h
abbrev Z27d:St:=⟨[Z270 rs],[]⟩
theorem b135r (l135_0q:Lo 46 (loopOf Tryz.f135 0) ⟨(Z27j rs),[(10,.map (([]:List ByteArray).map AV.str) (([]:List ByteArray).map fun _=>.agg []))]⟩ .ret Z27c):En 46 (bodyOf Tryz.f135) (Z27d rs) (fun e t=>e= .ret∧t=Z27c):=by
 have hl0:=l135_0q
 exact gE ⟨rfl,rfl⟩ 0 [.cut [0,3,11,12,13] [K1 10],.sum .ret [Z275] []] [2] [] (aC2 rTT hl0)
theorem b135x (k185:Sp 185 [.agg [.seq (rs.map Ru.av) false]] [] (.seq (es.map Ed.av) false) []) (l135_0q:Lo 46 (loopOf Tryz.f135 0) ⟨(Z27j rs),[(10,.map (([]:List ByteArray).map AV.str) (([]:List ByteArray).map fun _=>.agg []))]⟩ (.exit 0) ⟨(Z27g rs),[(10,.map (ks.map AV.str) (ks.map fun _=>.agg []))]⟩) (l135_1q:Lo 46 (loopOf Tryz.f135 1) ⟨(Z27k es),[(10,.map (ks.map AV.str) (ks.map fun _=>.agg []))]⟩ .ret Z27c):En 46 (bodyOf Tryz.f135) (Z27d rs) (fun e t=>e= .ret∧t=Z27c):=by
 have hl0:=l135_0q
 have hs1:=k185
 have hl2:=l135_1q
 exact gE ⟨rfl,rfl⟩ 0 [.cut [0,3,11,12,13] [K1 10],.sum (.exit 0) [Z270 rs,(3,.map 10)] [(10,.map (ks.map AV.str) (List.map (fun (x:ByteArray)=> .agg []) ks))],.call (.seq (es.map Ed.av) false) [] [],.cut [3,26,27,28] [K1 10],.sum .ret [Z275] []] [2] [] (aC5 rTT hl0 hs1 (show noIdsL (ks.map AV.str)=true∧noIdsL (List.map (fun (x:ByteArray)=>AV.agg []) ks)=true from by simp) hl2)
theorem b135e (k185:Sp 185 [.agg [.seq (rs.map Ru.av) false]] [] (.seq (es.map Ed.av) false) []) (l135_0q:Lo 46 (loopOf Tryz.f135 0) ⟨(Z27j rs),[(10,.map (([]:List ByteArray).map AV.str) (([]:List ByteArray).map fun _=>.agg []))]⟩ (.exit 0) ⟨(Z27g rs),[(10,.map (ks.map AV.str) (ks.map fun _=>.agg []))]⟩) (l135_1q:Lo 46 (loopOf Tryz.f135 1) ⟨(Z27k es),[(10,.map (ks.map AV.str) (ks.map fun _=>.agg []))]⟩ (.exit 2) ⟨[],[]⟩):En 46 (bodyOf Tryz.f135) (Z27d rs) (fun e t=>e= .ret∧t=⟨[(2,.bool true)],[]⟩):=by
 have hl0:=l135_0q
 have hs1:=k185
 have hl2:=l135_1q
 exact gE ⟨rfl,rfl⟩ 0 [.cut [0,3,11,12,13] [K1 10],.sum (.exit 0) [Z270 rs,(3,.map 10)] [(10,.map (ks.map AV.str) (List.map (fun (x:ByteArray)=> .agg []) ks))],.call (.seq (es.map Ed.av) false) [] [],.cut [3,26,27,28] [K1 10],.sum (.exit 2) [] []] [2] [] (aC5 rTT hl0 hs1 (show noIdsL (ks.map AV.str)=true∧noIdsL (List.map (fun (x:ByteArray)=>AV.agg []) ks)=true from by simp) hl2)
theorem k135 (hb:∀r:Ru,r∈rs→r.bd.length≤16) (hsm:rs.length≤2000000):∃rb:Bool,Sp 135 [.seq (rs.map Ru.av) false] [] (.bool rb) []:=by
 have fin:∀rb:Bool,Rz 46 (bodyOf Tryz.f135) ⟨argEnv 0 [.seq (rs.map Ru.av) false],[]⟩ .ret ⟨[(2,.bool rb)],[]⟩→∃rb:Bool,Sp 135 [.seq (rs.map Ru.av) false] [] (.bool rb) []:=fun rb h=>
  ⟨rb,sQ Tryz.f135 h⟩
 rcases l135_0 rs hsm with hL|⟨ks,hL⟩
 ·obtain ⟨e,s,⟨rfl,rfl⟩,h⟩:=b135r rs hL
  exact fin _ h
 ·obtain ⟨es,sp,hes⟩:=k185 rs hb hsm
  rcases l135_1 es ks hes with hL1|hL1
  ·obtain ⟨e,s,⟨rfl,rfl⟩,h⟩:=b135x rs es ks sp hL hL1
   exact fin _ h
  ·obtain ⟨e,s,⟨rfl,rfl⟩,h⟩:=b135e rs es ks sp hL hL1
   exact fin _ h
theorem b80 (hb:∀r:Ru,r∈rs→r.bd.length≤16) (hsm:rs.length≤2000000):En 10 (bodyOf Tryz.f80) (Z27d rs) (fun e t=>e= .ret∧∃rb,t=⟨[(2,.bool rb)],[]⟩):=by
 obtain ⟨r0,hs1⟩:=k133 rs
 cases r0 with
 |true=>
  exact ⟨Out.ret,St.mk [Z275] [],⟨rfl,_,rfl⟩,gA 0 [.call (.bool true) [] []] [2] [] (by kernel_rfl) (aC1 hs1)⟩
 |false=>
  obtain ⟨r2,hs3⟩:=k135 rs (by assumption) (by assumption)
  cases r2 with
  |true=>
   exact ⟨Out.ret,St.mk [(2,.bool true)] [],⟨rfl,_,rfl⟩,gA 0 [.call (.bool false) [] [],.call (.bool true) [] []] [2] [] (by kernel_rfl) (aC2 hs1 hs3)⟩
  |false=>
   exact ⟨Out.ret,St.mk [Z275] [],⟨rfl,_,rfl⟩,gA 0 [.call (.bool false) [] [],.call (.bool false) [] []] [2] [] (by kernel_rfl) (aC2 hs1 hs3)⟩
theorem k80 (hb:∀r:Ru,r∈rs→r.bd.length≤16) (hsm:rs.length≤2000000):∃rb,Sp 80 [.seq (rs.map Ru.av) false] [] (.bool rb) []:=by
 obtain ⟨e,t,⟨rfl,rb,rfl⟩,h⟩:=b80 rs hb hsm
 exact ⟨rb,sP Tryz.f80 (by first|rfl|simp [noIdsL,noIds]) h (.inr rfl)⟩
end
section
variable (rs:List Ru) (p:ByteArray) (ts:List Tm) (ps:Am) (g:Bool) (rn:Int)
theorem V.tupW {S:Blk} {β:Beta} {w:World} {v:Value} {cs ds:List AV} (hl:cs.length=ds.length) (h:∀(i:Nat) c d,cs[i]? =some c→ds[i]? =some d→Wk c d) (hv:Ped.V S β w v (.tup cs)):Ped.V S β w v (.tup ds):=by
 cases hv with
 |tup vs _ hl' h'=>
  refine .tup vs ds (hl'.trans hl) fun i v d h1 h2=> ?_
  have hlt:i<cs.length:=by rw [hl];exact (List.getElem?_eq_some_iff.1 h2).1
  have hc:cs[i]? =some cs[i]:=List.getElem?_eq_getElem hlt
  exact (h i _ d hc h2).V (h' i v _ h1 hc)
theorem Spec.wkT {P:Program} {f:FuncId} {args:List AV} {pre upd:List (Nat×Ob)} {y:AV} (h:Spec P f args pre (.tup [.nils,y]) upd):Spec P f args pre (.tup [.seq [] false,y]) upd:=by
 intro F S β hp w vs M hl hv hpl hfr
 refine (h F S β hp w vs M hl hv hpl hfr).mono ?_
 rintro e w' ⟨v,S',β',rfl,x,m,k⟩
 refine ⟨v,S',β',rfl,x,m,V.tupW (cs:=[.nils,y]) rfl (fun i c d h1 h2=> ?_) k⟩
 match i,h1,h2 with
 |0,h1,h2=>simp at h1 h2;subst h1;subst h2;exact .nils
 |1,h1,h2=>simp at h1 h2;subst h1;subst h2;exact .refl _
 |n+2,h1,h2=>simp at h1
theorem k78s (hsm:rs.length≤2000000) (hb:∀r,r∈rs→r.bd.length≤16) (hn:∀r,r∈rs→∀u,namesR r u→u.size≤1000000):
  (∃(rv:AV) (rn:Int),rn≠0∧Sp 78 [.agg [.seq (rs.map Ru.av) false],.nils] [] (.tup [rv,.int .i64 rn]) [])∨
  ∃ps am:Am,Sp 78 [.agg [.seq (rs.map Ru.av) false],.nils] [] (.tup [.seq (ps.map prA) false,.int .i64 0]) []∧(amK am).Nodup∧(∀r,r∈rs→numbR am r)∧(∀u,u∈amK am→u∈ps.map Prod.fst)∧(∀x,x∈ps→x∈am)∧ps.length<100000000:=by
 obtain ⟨rv,rn,sp,h⟩:=k78 rs hsm hb hn
 by_cases h0:rn=0
 ·subst h0
  obtain ⟨am,ps,h1|h1,h2,h3,h4,h5,h6,h7⟩:=h rfl
  ·obtain ⟨rfl,rfl⟩:=h1
   exact .inr ⟨[],am,sp.wkT,h2,h3,h5,h6,h7⟩
  ·subst h1
   exact .inr ⟨ps,am,sp,h2,h3,h5,h6,h7⟩
 ·exact .inl ⟨rv,rn,h0,sp⟩
def np (u:ByteArray):Prop:=u.size<(ByteArray.mk #[113,95]).size∨u.extract 0 (ByteArray.mk #[113,95]).size≠ByteArray.mk #[113,95]
abbrev Z280:Nat×AV:=(0,.seq (rs.map Ru.av) false)
abbrev Z281:Nat×AV:=(3,.tptr [.str p,.seq (ts.map Tm.av) false])
abbrev Z282:Nat×AV:=(9,.bool true)
abbrev Z283:Nat×AV:=(34,.seq (ps.map prA) false)
abbrev Z284:Nat×AV:=(35,.int .i64 ((ps.map prA).length:Nat))
abbrev Z285 (i:Nat):Nat×AV:=(36,.int .i64 (i:Int))
abbrev Z286:Nat×AV:=(4,.int .i64 72)
abbrev Z287 (i:Nat):Nat×AV:=(36,.int .i64 ((i+1:Nat):Int))
abbrev Z28d:St:=⟨[Z286],[]⟩
theorem t44t (i:Nat) (hi:i<ps.length) (hsm:ps.length≤9223372036854775807):En 66 (loopOf Tryz.f44 0) ⟨[Z280 rs,Z281 p ts,Z282,Z283 ps,Z284 ps,Z285 i],[]⟩ (fun e t=>(e= .ret∧t=Z28d)∨(e= .normal∧t=⟨[Z280 rs,Z281 p ts,Z282,Z283 ps,Z284 ps,Z287 i],[]⟩)):=by
 obtain ⟨x0,hm0,hx0⟩:=elt_of prA (l:=ps) (n:=(↑i:Int)) (by omega) (by omega)
 rcases bft (decide (x0.1=p)) with h1|h1
 ·rcases bft (decide (x0.2=(↑(List.length (List.map Tm.av ts)):Int))) with h2|h2
  ·exact gE (.inr ⟨rfl,rfl⟩) 0 [.is true,.elt (.agg [.str x0.1,.int .i64 x0.2]),.is true,.is false] [0,3,9,34,35,36] [] (aC5 (d1 prA ps i (by omega)) hx0 h1 (nF h2) (w1 i (by omega)))
  ·exact gE (.inl ⟨rfl,rfl⟩) 0 [.is true,.elt (.agg [.str x0.1,.int .i64 x0.2]),.is true,.is true] [4] [] (aC4 (d1 prA ps i (by omega)) hx0 h1 (nT h2))
 ·exact gE (.inr ⟨rfl,rfl⟩) 0 [.is true,.elt (.agg [.str x0.1,.int .i64 x0.2]),.is false] [0,3,9,34,35,36] [] (aC4 (d1 prA ps i (by omega)) hx0 h1 (w1 i (by omega)))
abbrev Z288:Nat×AV:=(9,.bool false)
abbrev Z289:Nat×AV:=(35,.int .i64 (↑(ps.map prA).length:Int))
abbrev Z28a (i:Nat):Nat×AV:=(36,.int .i64 ((i:Int)+1))
theorem t44f (i:Nat) (hi:i<ps.length) (hsm:ps.length≤9223372036854775807):En 66 (loopOf Tryz.f44 0) ⟨[Z280 rs,Z281 p ts,Z288,Z283 ps,Z284 ps,Z285 i],[]⟩ (fun e t=>(e= .ret∧t=Z28d)∨(e= .normal∧∃rb:Bool,t=⟨[Z280 rs,Z281 p ts,(9,.bool rb),Z283 ps,Z284 ps,Z287 i],[]⟩∧(rb=false→∃y,ps[i]? =some y∧np y.1∧(y.1=p→y.2=ts.length)))):=by
 obtain ⟨x0,hm0,hx0⟩:=elt_of prA (l:=ps) (n:=(↑i:Int)) (by omega) (by omega)
 rcases bft (decide (x0.1=p)) with h1|h1
 ·rcases bft (decide (x0.2=(↑(List.length (List.map Tm.av ts)):Int))) with h2|h2
  ·obtain ⟨r3,⟨hs4,hs4'⟩⟩:=k79 x0.1 (ByteArray.mk #[113,95])
   cases r3 with
   |true=>
    exact ⟨Out.normal,St.mk [Z280 rs,Z281 p ts,Z282,Z283 ps,Z289 ps,Z28a i] [],.inr ⟨rfl,_,rfl,by first|(intro h;cases h;done)|(intro _;unfold np;refine ⟨x0,hm0,?_,?_⟩<;>simp_all)⟩,gA 0 [.is true,.elt (.agg [.str x0.1,.int .i64 x0.2]),.is true,.is false,.call (.bool true) [] []] [0,3,9,34,35,36] [] (by kernel_rfl) (aC6 (d1 prA ps i (by omega)) hx0 h1 (nF h2) hs4 (w1 i (by omega)))⟩
   |false=>
    exact ⟨Out.normal,St.mk [Z280 rs,Z281 p ts,Z288,Z283 ps,Z289 ps,Z28a i] [],.inr ⟨rfl,_,rfl,by first|(intro h;cases h;done)|(intro _;unfold np;refine ⟨x0,hm0,?_,?_⟩<;>simp_all)⟩,gA 0 [.is true,.elt (.agg [.str x0.1,.int .i64 x0.2]),.is true,.is false,.call (.bool false) [] []] [0,3,9,34,35,36] [] (by kernel_rfl) (aC6 (d1 prA ps i (by omega)) hx0 h1 (nF h2) hs4 (w1 i (by omega)))⟩
  ·exact gE (.inl ⟨rfl,rfl⟩) 0 [.is true,.elt (.agg [.str x0.1,.int .i64 x0.2]),.is true,.is true] [4] [] (aC4 (d1 prA ps i (by omega)) hx0 h1 (nT h2))
 ·obtain ⟨r2,⟨hs3,hs3'⟩⟩:=k79 x0.1 (ByteArray.mk #[113,95])
  cases r2 with
  |true=>
   exact ⟨Out.normal,St.mk [Z280 rs,Z281 p ts,Z282,Z283 ps,Z289 ps,Z28a i] [],.inr ⟨rfl,_,rfl,by first|(intro h;cases h;done)|(intro _;unfold np;refine ⟨x0,hm0,?_,?_⟩<;>simp_all)⟩,gA 0 [.is true,.elt (.agg [.str x0.1,.int .i64 x0.2]),.is false,.call (.bool true) [] []] [0,3,9,34,35,36] [] (by kernel_rfl) (aC5 (d1 prA ps i (by omega)) hx0 h1 hs3 (w1 i (by omega)))⟩
  |false=>
   exact ⟨Out.normal,St.mk [Z280 rs,Z281 p ts,Z288,Z283 ps,Z289 ps,Z28a i] [],.inr ⟨rfl,_,rfl,by first|(intro h;cases h;done)|(intro _;unfold np;refine ⟨x0,hm0,?_,?_⟩<;>simp_all)⟩,gA 0 [.is true,.elt (.agg [.str x0.1,.int .i64 x0.2]),.is false,.call (.bool false) [] []] [0,3,9,34,35,36] [] (by kernel_rfl) (aC5 (d1 prA ps i (by omega)) hx0 h1 hs3 (w1 i (by omega)))⟩
theorem e44:En 66 (loopOf Tryz.f44 0) ⟨[Z280 rs,Z281 p ts,(9,.bool g),Z283 ps,Z284 ps,(36,.int .i64 ((ps.length:Nat):Int))],[]⟩ (fun e t=>e= .exit 0∧t=⟨[Z280 rs,(9,.bool g)],[]⟩):=by
 exact gE ⟨rfl,rfl⟩ 0 [.is false] [0,9] [] (aC1 (show decide ((↑ps.length:Int)<(↑(ps.map prA).length:Int))=false from by simp))
abbrev Z28b:Nat×AV:=(36,.int .i64 0)
abbrev Z28e:St:=⟨[Z280 rs,Z281 p ts,(9,.bool g),Z283 ps,Z284 ps,Z28b],[]⟩
theorem l44_0 (hsm:ps.length≤9223372036854775807) (g:Bool):(Lo 66 (loopOf Tryz.f44 0) (Z28e rs p ts ps g) .ret Z28d)∨
  ∃g':Bool,Lo 66 (loopOf Tryz.f44 0) (Z28e rs p ts ps g) (.exit 0) ⟨[Z280 rs,(9,.bool g')],[]⟩∧(g'=false→g=false∧∀y,y∈ps→np y.1∧(y.1=p→y.2=ts.length)):=by
 have T:∀(i:Nat) (g':Bool),i<ps.length→(g'=false→g=false∧∀k,k<i→∀y,ps[k]? =some y→np y.1∧(y.1=p→y.2=ts.length))→En 66 (loopOf Tryz.f44 0) ⟨[Z280 rs,Z281 p ts,(9,.bool g'),Z283 ps,Z284 ps,Z285 i],[]⟩ (fun e t=>(e= .ret∧t=Z28d)∨(e= .normal∧∃g2:Bool,(g2=false→g=false∧∀k,k<i+1→∀y,ps[k]? =some y→np y.1∧(y.1=p→y.2=ts.length))∧t=⟨[Z280 rs,Z281 p ts,(9,.bool g2),Z283 ps,Z284 ps,Z287 i],[]⟩)):=by
  intro i g' hi hg
  cases g' with
  |true=>
   obtain ⟨e,t,h1|⟨rfl,rfl⟩,h⟩:=t44t rs p ts ps i hi hsm
   ·exact ⟨e,t,.inl h1,h⟩
   ·exact ⟨_,_,.inr ⟨rfl,true,fun h=>(by cases h),rfl⟩,h⟩
  |false=>
   obtain ⟨e,t,h1|⟨rfl,rb,rfl,hrb⟩,h⟩:=t44f rs p ts ps i hi hsm
   ·exact ⟨e,t,.inl h1,h⟩
   ·refine ⟨_,_,.inr ⟨rfl,rb,fun h0=>⟨(hg rfl).1,fun k hk y hy=> ?_⟩,rfl⟩,h⟩
    rcases Nat.lt_or_ge k i with hlt|hge
    ·exact (hg rfl).2 k hlt y hy
    ·have:k=i:=by omega
     subst this
     obtain ⟨y',h1,h2⟩:=hrb h0
     rw [hy] at h1;injection h1 with h1;subst h1
     exact h2
 rcases inv_loop (P:=Tryz.prog) (n:=66) (c:=loopOf Tryz.f44 0) (N:=ps.length) (k:=0) (γ:=Bool) (fun i g'=>⟨[Z280 rs,Z281 p ts,(9,.bool g'),Z283 ps,Z284 ps,Z285 i],[]⟩) (fun g'=>⟨[Z280 rs,(9,.bool g')],[]⟩) (fun t=>t=Z28d) (fun i g'=>g'=false→g=false∧∀k,k<i→∀y,ps[k]? =some y→np y.1∧(y.1=p→y.2=ts.length)) T (fun g' _=>e44 rs p ts ps g') g (fun h=>⟨h,fun k hk=>absurd hk (Nat.not_lt_zero _)⟩) with ⟨t,h,rfl⟩|⟨g',h1,h⟩
 ·exact .inl h
 ·refine .inr ⟨g',h,fun h0=>⟨(h1 h0).1,fun y hy=> ?_⟩⟩
  obtain ⟨k,hk⟩:=List.mem_iff_getElem?.1 hy
  exact (h1 h0).2 k (List.getElem?_eq_some_iff.1 hk).1 y hk
abbrev Z28c:Nat×AV:=(4,.int .i64 0)
abbrev Z28f:St:=⟨[Z280 rs,Z281 p ts,Z28c],[]⟩
theorem w44:EN 66 (partC 0 (bodyOf Tryz.f44)) ⟨[Z280 rs,(1,atA p ts)],[]⟩ (Z28f rs p ts):=by
 exact gE ⟨rfl,rfl⟩ 0 [] [0,3,4] [(3,.freeze)] (aC1 rT)
abbrev Z28g:St:=⟨[(4,.int .i64 rn)],[]⟩
theorem b44a (hne:(!decide (rn=0))=true) (k76:Sp 76 [.seq (rs.map Ru.av) false,.nils] [] (.int .i64 rn) []):En 66 (restC 1 (bodyOf Tryz.f44)) (Z28f rs p ts) (fun e t=>e= .ret∧t=(Z28g rn)):=by
 exact gE ⟨rfl,rfl⟩ 0 [.call (.int .i64 rn) [] [],.is true] [4] [] (aC2 k76 hne)
theorem b44b (hne:(!decide (rn=0))=true) (k76:Sp 76 [.seq (rs.map Ru.av) false,.nils] [] (.int .i64 0) []) (k77p:Sp 77 [atA p ts] [] (.int .i64 rn) []):En 66 (restC 1 (bodyOf Tryz.f44)) (Z28f rs p ts) (fun e t=>e= .ret∧t=(Z28g rn)):=by
 exact gE ⟨rfl,rfl⟩ 0 [.call (.int .i64 0) [] [],.is false,.call (.int .i64 rn) [] [],.is true] [4] [] (aC4 k76 rF k77p hne)
theorem b44c (rv:AV) (rn:Int) (hne:(!decide (rn=0))=true) (k76:Sp 76 [.seq (rs.map Ru.av) false,.nils] [] (.int .i64 0) []) (k77p:Sp 77 [atA p ts] [] (.int .i64 0) []) (k78:Sp 78 [.agg [.seq (rs.map Ru.av) false],.nils] [] (.tup [rv,.int .i64 rn]) []):En 66 (restC 1 (bodyOf Tryz.f44)) (Z28f rs p ts) (fun e t=>e= .ret∧t=(Z28g rn)):=by
 exact gE ⟨rfl,rfl⟩ 0 [.call (.int .i64 0) [] [],.is false,.call (.int .i64 0) [] [],.is false,.call (.tup [rv,.int .i64 rn]) [] [],.is true] [4] [] (aC6 k76 rF k77p rF k78 hne)
theorem b44d (k76:Sp 76 [.seq (rs.map Ru.av) false,.nils] [] (.int .i64 0) []) (k77p:Sp 77 [atA p ts] [] (.int .i64 0) []) (k78:Sp 78 [.agg [.seq (rs.map Ru.av) false],.nils] [] (.tup [.seq (ps.map prA) false,.int .i64 0]) []) (k79:Sp 79 [.str p,.str (ByteArray.mk #[113,95])] [] (.bool g) []) (l44_0q:Lo 66 (loopOf Tryz.f44 0) (Z28e rs p ts ps g) .ret Z28d):En 66 (restC 1 (bodyOf Tryz.f44)) (Z28f rs p ts) (fun e t=>e= .ret∧t=Z28d):=by
 have hl0:=l44_0q
 exact gE ⟨rfl,rfl⟩ 0 [.call (.int .i64 0) [] [],.is false,.call (.int .i64 0) [] [],.is false,.call (.tup [.seq (ps.map prA) false,.int .i64 0]) [] [],.is false,.call (.bool g) [] [],.cut [0,3,9,34,35,36] [],.sum .ret [Z286] []] [4] [] (aC8 k76 rF k77p rF k78 rF k79 hl0)
theorem b44e (k76:Sp 76 [.seq (rs.map Ru.av) false,.nils] [] (.int .i64 0) []) (k77p:Sp 77 [atA p ts] [] (.int .i64 0) []) (k78:Sp 78 [.agg [.seq (rs.map Ru.av) false],.nils] [] (.tup [.seq (ps.map prA) false,.int .i64 0]) []) (k79:Sp 79 [.str p,.str (ByteArray.mk #[113,95])] [] (.bool g) []) (l44_0q:Lo 66 (loopOf Tryz.f44 0) (Z28e rs p ts ps g) (.exit 0) ⟨[Z280 rs,Z282],[]⟩):En 66 (restC 1 (bodyOf Tryz.f44)) (Z28f rs p ts) (fun e t=>e= .ret∧t=⟨[(4,.int .i64 71)],[]⟩):=by
 have hl0:=l44_0q
 exact gE ⟨rfl,rfl⟩ 0 [.call (.int .i64 0) [] [],.is false,.call (.int .i64 0) [] [],.is false,.call (.tup [.seq (ps.map prA) false,.int .i64 0]) [] [],.is false,.call (.bool g) [] [],.cut [0,3,9,34,35,36] [],.sum (.exit 0) [Z280 rs,Z282] []] [4] [] (aC8 k76 rF k77p rF k78 rF k79 hl0)
theorem b44f (k76:Sp 76 [.seq (rs.map Ru.av) false,.nils] [] (.int .i64 0) []) (k77p:Sp 77 [atA p ts] [] (.int .i64 0) []) (k78:Sp 78 [.agg [.seq (rs.map Ru.av) false],.nils] [] (.tup [.seq (ps.map prA) false,.int .i64 0]) []) (k79:Sp 79 [.str p,.str (ByteArray.mk #[113,95])] [] (.bool g) []) (l44_0q:Lo 66 (loopOf Tryz.f44 0) (Z28e rs p ts ps g) (.exit 0) ⟨[Z280 rs,Z288],[]⟩) (k80:Sp 80 [.seq (rs.map Ru.av) false] [] (.bool false) []):En 66 (restC 1 (bodyOf Tryz.f44)) (Z28f rs p ts) (fun e t=>e= .ret∧t=⟨[(4,.int .i64 180)],[]⟩):=by
 have hl0:=l44_0q
 have hs1:=k80
 exact gE ⟨rfl,rfl⟩ 0 [.call (.int .i64 0) [] [],.is false,.call (.int .i64 0) [] [],.is false,.call (.tup [.seq (ps.map prA) false,.int .i64 0]) [] [],.is false,.call (.bool g) [] [],.cut [0,3,9,34,35,36] [],.sum (.exit 0) [Z280 rs,Z288] [],.call (.bool false) [] []] [4] [] (aC9 k76 rF k77p rF k78 rF k79 hl0 hs1)
theorem b44g (k76:Sp 76 [.seq (rs.map Ru.av) false,.nils] [] (.int .i64 0) []) (k77p:Sp 77 [atA p ts] [] (.int .i64 0) []) (k78:Sp 78 [.agg [.seq (rs.map Ru.av) false],.nils] [] (.tup [.seq (ps.map prA) false,.int .i64 0]) []) (k79:Sp 79 [.str p,.str (ByteArray.mk #[113,95])] [] (.bool g) []) (l44_0q:Lo 66 (loopOf Tryz.f44 0) (Z28e rs p ts ps g) (.exit 0) ⟨[Z280 rs,Z288],[]⟩) (k80:Sp 80 [.seq (rs.map Ru.av) false] [] (.bool true) []):En 66 (restC 1 (bodyOf Tryz.f44)) (Z28f rs p ts) (fun e t=>e= .ret∧t=⟨[Z28c],[]⟩):=by
 have hl0:=l44_0q
 have hs1:=k80
 exact gE ⟨rfl,rfl⟩ 0 [.call (.int .i64 0) [] [],.is false,.call (.int .i64 0) [] [],.is false,.call (.tup [.seq (ps.map prA) false,.int .i64 0]) [] [],.is false,.call (.bool g) [] [],.cut [0,3,9,34,35,36] [],.sum (.exit 0) [Z280 rs,Z288] [],.call (.bool true) [] []] [4] [] (aC9 k76 rF k77p rF k78 rF k79 hl0 hs1)
structure RefOK (rs:List Ru) (p:ByteArray) (ts:List Tm) (am:Am):Prop where
 small:∀r,r∈rs→smallR r.p r.hd r.bd
 few:ts.length≤24
 short:p.size≤120
 np:np p
 nod:(amK am).Nodup
 numb:∀r,r∈rs→numbR am r
 npk:∀u,u∈amK am→Ped.np u
 ari:∀n,(p,n)∈am→n=(ts.length:Int)
theorem am_one:∀{am:Am},(amK am).Nodup→∀{u:ByteArray} {n m:Int},(u,n)∈am→(u,m)∈am→n=m
 |x::r,hd,u,n,m,h1,h2=>by
  simp only [amK,List.map_cons,List.nodup_cons] at hd
  have out:∀{k:Int},(x.1,k)∈r→False:=fun h=>hd.1 (List.mem_map.2 ⟨_,h,rfl⟩)
  rcases List.mem_cons.1 h1 with a1|a1<;>rcases List.mem_cons.1 h2 with a2|a2
  ·have:=a1.trans a2.symm;injection this
  ·subst a1;exact (out a2).elim
  ·subst a2;exact (out a1).elim
  ·exact am_one hd.2 a1 a2
theorem k44 (hsm:rs.length≤2000000):∃rn:Int,Sp 44 [.seq (rs.map Ru.av) false,atA p ts] [] (.int .i64 rn) []∧(rn=0→∃am:Am,RefOK rs p ts am):=by
 obtain ⟨e,s,⟨rfl,rfl⟩,r0⟩:=w44 rs p ts
 have fin:∀rn:Int,Rz 66 (restC 1 (bodyOf Tryz.f44)) (Z28f rs p ts) .ret (Z28g rn)→Sp 44 [.seq (rs.map Ru.av) false,atA p ts] [] (.int .i64 rn) []:=fun rn h=>
  sP Tryz.f44 (by simp [noIdsL,noIds,atA,atC]) (Runs.nth 0 (by kernel_rfl) r0 h) (.inr rfl)
 obtain ⟨n1,s1,h1⟩:=k76 rs hsm
 by_cases e1:n1=0
 ·subst e1
  obtain ⟨n2,s2,h2⟩:=k77p p ts
  by_cases e2:n2=0
  ·subst e2
   rcases k78s rs hsm (small_names (h1 rfl)).1 (small_names (h1 rfl)).2 with ⟨rv,n3,e3,s3⟩|⟨ps,am,s3,a1,a2,a3,a4,a5⟩
   ·obtain ⟨e,s,⟨rfl,rfl⟩,h⟩:=b44c rs p ts rv n3 (by simp [e3]) s1 s2 s3
    exact ⟨n3,fin _ h,fun h=>absurd h e3⟩
   ·obtain ⟨g,s4,h4⟩:=k79 p (ByteArray.mk #[113,95])
    have hps:ps.length≤9223372036854775807:=by omega
    ·rcases l44_0 rs p ts ps hps g with hL|⟨g',hL,hg⟩
     ·obtain ⟨e,s,⟨rfl,rfl⟩,h⟩:=b44d rs p ts ps g s1 s2 s3 s4 hL
      exact ⟨72,fin _ h,fun h=>by cases h⟩
     ·cases g' with
      |true=>
       obtain ⟨e,s,⟨rfl,rfl⟩,h⟩:=b44e rs p ts ps g s1 s2 s3 s4 hL
       exact ⟨71,fin _ h,fun h=>by cases h⟩
      |false=>
       obtain ⟨rb,s5⟩:=k80 rs (small_names (h1 rfl)).1 hsm
       cases rb with
       |false=>
        obtain ⟨e,s,⟨rfl,rfl⟩,h⟩:=b44f rs p ts ps g s1 s2 s3 s4 hL s5
        exact ⟨180,fin _ h,fun h=>by cases h⟩
       |true=>
        obtain ⟨e,s,⟨rfl,rfl⟩,h⟩:=b44g rs p ts ps g s1 s2 s3 s4 hL s5
        obtain ⟨hg0,hy⟩:=hg rfl
        refine ⟨0,fin _ h,fun _=>⟨am,h1 rfl,(h2 rfl).1,(h2 rfl).2,h4 hg0,a1,a2,fun u hu=> ?_,fun n hn=> ?_⟩⟩
        ·obtain ⟨y,hy1,rfl⟩:=List.mem_map.1 (a3 u hu)
         exact (hy y hy1).1
        ·obtain ⟨y,hy1,hy2⟩:=List.mem_map.1 (a3 p (List.mem_map.2 ⟨(p,n),hn,rfl⟩))
         have:=a4 y hy1
         have e:(p,y.2)∈am:=by rw [←hy2];exact this
         exact (am_one a1 hn e).trans ((hy y hy1).2 hy2)
  ·obtain ⟨e,s,⟨rfl,rfl⟩,h⟩:=b44b rs p ts n2 (by simp [e2]) s1 s2
   exact ⟨n2,fin _ h,fun h=>absurd h e2⟩
 ·obtain ⟨e,s,⟨rfl,rfl⟩,h⟩:=b44a rs p ts n1 (by simp [e1]) s1
  exact ⟨n1,fin _ h,fun h=>absurd h e1⟩
end
section
variable (l:List ByteArray) (bd:List Li) (ks:List ByteArray) (p:Int) (i:Nat) (s:Int) (v:ByteArray)
theorem k37 (hks:ks.length<1000000000000000):∃rb:Bool,Sp 37 [.seq (ks.map .str) false,.str v] [] (.bool rb) []∧(rb=true↔v∈ks):=
 ⟨hasT ks v,contains_spec ks false v hks,hasT_iff⟩
abbrev Z290:Nat×AV:=(1,.tptr [.seq (ks.map AV.str) false])
theorem b139 (hks:ks.length<1000000000000000):En 8 (bodyOf Tryz.f139) ⟨[(0,.str v),Z290 ks],[]⟩ (fun e t=>e= .ret∧∃rb,t=⟨[(3,.bool rb)],[]⟩):=by
 obtain ⟨r0,⟨hs1,hs1'⟩⟩:=k37 ks v (by assumption)
 cases r0 with
 |true=>
  exact ⟨Out.ret,St.mk [(3,.bool false)] [],⟨rfl,_,rfl⟩,gA 0 [.call (.bool true) [] []] [3] [] (by kernel_rfl) (aC1 hs1)⟩
 |false=>
  exact ⟨Out.ret,St.mk [(3,.bool true)] [],⟨rfl,_,rfl⟩,gA 0 [.call (.bool false) [] []] [3] [] (by kernel_rfl) (aC1 hs1)⟩
theorem k139 (hks:ks.length<1000000000000000):∃rb,Sp 139 [.str v,.tptr [.seq (ks.map .str) false]] [] (.bool rb) []:=by
 obtain ⟨e,t,⟨rfl,rb,rfl⟩,h⟩:=b139 ks v hks
 exact ⟨rb,sP Tryz.f139 (by first|rfl|simp [noIdsL,noIds]) h (.inr rfl)⟩
abbrev Z291:Nat×AV:=(6,.bool false)
theorem b140 (a b:Ex) (ks:List ByteArray) (hks:ks.length<1000000000000000) (hB:b.terms.length<100000000) (hV:(varsOf b.terms).length<1000000000000000):En 31 (bodyOf Tryz.f140) ⟨[(0,.agg a.cells),(1,.agg b.cells),(2,.seq (ks.map AV.str) false)],[]⟩ (fun e t=>e= .ret∧∃rb,t=⟨[(6,.bool rb)],[]⟩):=by
 rcases bft (decide (Ex.op a=0)) with h0|h0
 ·rcases bft (decide (Tm.v (Ex.t a)=ByteArray.mk #[])) with h1|h1
  ·exact ⟨Out.ret,St.mk [Z291] [],⟨rfl,_,rfl⟩,gA 0 [.is true,.is false] [6] [] (by kernel_rfl) (aC2 h0 (nF h1))⟩
  ·obtain ⟨r2,⟨hs3,hs3'⟩⟩:=k37 ks ((Ex.t a).1) (by assumption)
   cases r2 with
   |true=>
    exact ⟨Out.ret,St.mk [Z291] [],⟨rfl,_,rfl⟩,gA 0 [.is true,.is true,.call (.bool true) [] []] [6] [] (by kernel_rfl) (aC3 h0 (nT h1) hs3)⟩
   |false=>
    have hs4:=k187 b (by omega)
    obtain ⟨r5,⟨hs6,hs6'⟩⟩:=k37 (varsOf (Ex.terms b)) ((Ex.t a).1) (by assumption)
    cases r5 with
    |true=>
     exact ⟨Out.ret,St.mk [Z291] [],⟨rfl,_,rfl⟩,gA 0 [.is true,.is true,.call (.bool false) [] [],.call (.seq (List.map AV.str (varsOf (Ex.terms b))) false) [] [],.call (.bool true) [] []] [6] [] (by kernel_rfl) (aC5 h0 (nT h1) hs3 hs4 hs6)⟩
    |false=>
     exact ⟨Out.ret,St.mk [(6,.bool true)] [],⟨rfl,_,rfl⟩,gA 0 [.is true,.is true,.call (.bool false) [] [],.call (.seq (List.map AV.str (varsOf (Ex.terms b))) false) [] [],.call (.bool false) [] []] [6] [] (by kernel_rfl) (aC5 h0 (nT h1) hs3 hs4 hs6)⟩
 ·exact ⟨Out.ret,St.mk [Z291] [],⟨rfl,_,rfl⟩,gA 0 [.is false] [6] [] (by kernel_rfl) (aC1 h0)⟩
theorem k140 (a b:Ex) (ks:List ByteArray) (hks:ks.length<1000000000000000) (hB:b.terms.length<100000000) (hV:(varsOf b.terms).length<1000000000000000):∃rb,Sp 140 [.agg a.cells,.agg b.cells,.seq (ks.map .str) false] [] (.bool rb) []:=by
 obtain ⟨e,t,⟨rfl,rb,rfl⟩,h⟩:=b140 a b ks hks hB hV
 exact ⟨rb,sP Tryz.f140 (by first|rfl|simp [noIdsL,noIds]) h (.inr rfl)⟩
abbrev Z292:Nat×AV:=(0,.seq (l.map AV.str) false)
abbrev Z293:Nat×AV:=(6,.seq (l.map AV.str) false)
abbrev Z294:Nat×AV:=(7,.int .i64 ((l.map AV.str).length:Nat))
abbrev Z295:Nat×AV:=(8,.int .i64 (i:Int))
abbrev Z296:Nat×AV:=(4,.int .i64 (i:Int))
abbrev Z29p:St:=⟨[Z292 l,(1,.clo 139 [] [.tptr [.seq (ks.map .str) false]]),Z293 l,Z294 l,Z295 i],[]⟩
abbrev Z29q:St:=⟨[Z296 i],[]⟩
abbrev Z29r:St:=⟨[Z292 l,(1,.clo 139 [] [.tptr [.seq (ks.map .str) false]]),Z293 l,Z294 l,(8,.int .i64 ((i+1:Nat):Int))],[]⟩
theorem t186 (hks:ks.length<1000000000000000) (i:Nat) (hi:i<l.length) (hsm:l.length≤9223372036854775807):En 19 (loopOf Tryz.f186 0) (Z29p l ks i) (fun e t=>(e= .ret∧t=(Z29q i))∨(e= .normal∧t=(Z29r l ks i))):=by
 obtain ⟨x0,hm0,hx0⟩:=elt_of AV.str (l:=l) (n:=(↑i:Int)) (by omega) (by omega)
 obtain ⟨r1,hs2⟩:=k139 ks x0 (by assumption)
 cases r1 with
 |true=>
  exact gE (.inl ⟨rfl,rfl⟩) 0 [.is true,.elt (.str x0),.call (.bool true) [] []] [4] [] (aC3 (d1 AV.str l i (by omega)) hx0 hs2)
 |false=>
  exact gE (.inr ⟨rfl,rfl⟩) 0 [.is true,.elt (.str x0),.call (.bool false) [] []] [0,1,6,7,8] [] (aC4 (d1 AV.str l i (by omega)) hx0 hs2 (w1 i (by omega)))
theorem zsma92 (l:List ByteArray):decide ((↑l.length:Int)<(↑(l.map AV.str).length:Int))=false:=by simp
theorem e186:En 19 (loopOf Tryz.f186 0) ⟨[Z292 l,(1,.clo 139 [] [.tptr [.seq (ks.map .str) false]]),Z293 l,Z294 l,(8,.int .i64 ((l.length:Nat):Int))],[]⟩ (fun e t=>e= .exit 0∧t=⟨[],[]⟩):=by
 exact gE ⟨rfl,rfl⟩ 0 [.is false] [] [] (aC1 (zsma92 l))
abbrev Z297:Nat×AV:=(8,.int .i64 0)
abbrev Z298:Nat×AV:=(4,.int .i64 ((i:Nat):Int))
abbrev Z29s:St:=⟨[Z292 l,(1,.clo 139 [] [.tptr [.seq (ks.map .str) false]]),Z293 l,Z294 l,Z297],[]⟩
abbrev Z29t:St:=⟨[Z298 i],[]⟩
theorem l186_0 (hks:ks.length<1000000000000000) (hsm:l.length≤9223372036854775807):
  (∃i,i<l.length∧Lo 19 (loopOf Tryz.f186 0) (Z29s l ks) .ret (Z29t i))∨
  Lo 19 (loopOf Tryz.f186 0) (Z29s l ks) (.exit 0) ⟨[],[]⟩:=by
 have T:∀i,i<l.length→En 19 (loopOf Tryz.f186 0) (Z29p l ks i) (fun e t=>(e= .ret∧∃i:Nat,i<l.length∧t=(Z29q i))∨(e= .normal∧t=(Z29r l ks i))):=by
  intro i hi
  obtain ⟨e,t,⟨rfl,rfl⟩|h1,h⟩:=t186 l ks hks i hi hsm
  ·exact ⟨_,_,.inl ⟨rfl,i,hi,rfl⟩,h⟩
  ·exact ⟨e,t,.inr h1,h⟩
 rcases range_ex (P:=Tryz.prog) (n:=19) (c:=loopOf Tryz.f186 0) (N:=l.length) (k:=0) (fun i=>(Z29p l ks i)) ⟨[],[]⟩ (fun t=>∃i:Nat,i<l.length∧t=(Z29q i)) T (e186 l ks) with ⟨t,h,i,hi,rfl⟩|h
 ·exact .inl ⟨i,hi,h⟩
 ·exact .inr h
abbrev Z29u:St:=⟨[Z292 l,(1,.clo 139 [] [.tptr [.seq (ks.map .str) false]])],[]⟩
theorem b186r (l186_0q:Lo 19 (loopOf Tryz.f186 0) (Z29s l ks) .ret (Z29t i)):En 19 (bodyOf Tryz.f186) (Z29u l ks) (fun e t=>e= .ret∧t=(Z29t i)):=by
 have hl0:=l186_0q
 exact gE ⟨rfl,rfl⟩ 0 [.cut [0,1,6,7,8] [],.sum .ret [Z296 i] []] [4] [] (aC1 hl0)
theorem b186e (l186_0q:Lo 19 (loopOf Tryz.f186 0) (Z29s l ks) (.exit 0) ⟨[],[]⟩):En 19 (bodyOf Tryz.f186) (Z29u l ks) (fun e t=>e= .ret∧t=⟨[(4,.int .i64 (-1))],[]⟩):=by
 have hl0:=l186_0q
 exact gE ⟨rfl,rfl⟩ 0 [.cut [0,1,6,7,8] [],.sum (.exit 0) [] []] [4] [] (aC1 hl0)
theorem k186s (hks:ks.length<1000000000000000) (hsm:l.length≤9223372036854775807):
  (∃i,i<l.length∧Sp 186 [.seq (l.map .str) false,.clo 139 [] [.tptr [.seq (ks.map .str) false]]] [] (.int .i64 ((i:Nat):Int)) [])∨Sp 186 [.seq (l.map .str) false,.clo 139 [] [.tptr [.seq (ks.map .str) false]]] [] (.int .i64 (-1)) []:=by
 rcases l186_0 l ks hks hsm with ⟨i,hi,hL⟩|hL
 ·obtain ⟨e,t,⟨rfl,rfl⟩,h⟩:=b186r l ks i hL
  exact .inl ⟨i,hi,sQ Tryz.f186 h⟩
 ·obtain ⟨e,t,⟨rfl,rfl⟩,h⟩:=b186e l ks hL
  exact .inr (sQ Tryz.f186 h)
abbrev Z299:Nat×Ob:=(100000,.row 1 (l.map AV.str))
theorem k186w (rn:Int) (h:Sp 186 [.seq (l.map .str) false,.clo 139 [] [.tptr [.seq (ks.map .str) false]]] [] (.int .i64 rn) []):
  Sp 186 [.row 100000 0 (l.map AV.str).length,.clo 139 [] [.tptr [.seq (ks.map .str) false]]] [Z299 l] (.int .i64 rn) []:=
 h.borrow [Z299 l] rfl (fun x hx p hp=>by
  rw [List.mem_singleton] at hx;subst hx
  rw [List.mem_singleton.1 hp];exact noIdsL_strs l) rfl (fun p hp=>by
  rw [List.mem_singleton.1 (show p∈[(l.map AV.str).length=(l.map AV.str).length] from hp)]) rfl
@[simp] theorem noIdsL_tkS (l:List ByteArray) (i:Nat):noIdsL ((l.map AV.str).take i)=true:=noIdsL_iff.2 fun x hx=>noIdsL_iff.1 (noIdsL_strs l) x (List.mem_of_mem_take hx)
@[simp] theorem noIdsL_drS (l:List ByteArray) (i:Nat):noIdsL ((l.map AV.str).drop i)=true:=noIdsL_iff.2 fun x hx=>noIdsL_iff.1 (noIdsL_strs l) x (List.mem_of_mem_drop hx)
@[simp] theorem noIdsL_rpS (n:Nat) (s:ByteArray):noIdsL (List.replicate n (AV.str s))=true:=noIdsL_iff.2 fun x hx=>by rw [(List.mem_replicate.1 hx).2];rfl
abbrev Z29v:St:=⟨[(0,.row 100000 0 (l.map AV.str).length),(1,.clo 139 [] [.tptr [.seq (ks.map .str) false]])],[Z299 l]⟩
theorem b137n (k186:Sp 186 [.row 100000 0 (l.map AV.str).length,.clo 139 [] [.tptr [.seq (ks.map .str) false]]] [Z299 l] (.int .i64 (-1)) []):En 42 (bodyOf Tryz.f137) (Z29v l ks) (fun e t=>e= .ret∧t=⟨[(4,.row 100000 0 (l.map AV.str).length)],[Z299 l]⟩):=by
 have hs0:=k186
 exact gE ⟨rfl,rfl⟩ 60000 [.call (.int .i64 (-1)) [100000] [],.is true] [4] [K1 100000] (aC3 hs0 rT (zsn5n4 l))
theorem t137 (hks:ks.length<1000000000000000) (i j:Nat) (x:ByteArray) (hi:i<l.length) (hj:j<l.length) (hsm:l.length≤1000000000000) (hx:(l.map AV.str)[0+Int.toNat (j:Int)]? =some (.str x)):En 42 (loopOf Tryz.f137 0) ⟨[(0,.row 100000 0 (l.map AV.str).length),(1,.clo 139 [] [.tptr [.seq (ks.map .str) false]]),(5,.int .i64 (i:Int)),(6,.int .i64 (j:Int))],[(100000,.row 1 (l.map .str))]⟩ (fun e t=>(e= .normal∧t=⟨[(0,.row 100000 0 (l.map AV.str).length),(1,.clo 139 [] [.tptr [.seq (ks.map .str) false]]),(5,.int .i64 (i:Int)),(6,.int .i64 ((j+1:Nat):Int))],[(100000,.row 1 (l.map .str))]⟩)∨(e= .normal∧t=⟨[(0,.row 100000 0 (l.map AV.str).length),(1,.clo 139 [] [.tptr [.seq (ks.map .str) false]]),(5,.int .i64 ((i+1:Nat):Int)),(6,.int .i64 ((j+1:Nat):Int))],[(100000,.row 1 ((l.map AV.str).set (0+Int.toNat (i:Int)) (.str x)))]⟩)):=by
 obtain ⟨r0,hs1⟩:=k139 ks x (by assumption)
 cases r0 with
 |true=>
  exact ⟨Out.normal,St.mk [(0,AV.row 100000 0 (List.length (List.map AV.str l))),(1,AV.clo 139 [] [AV.tptr [AV.seq (List.map AV.str ks) false]]),(5,AV.int .i64 (↑i:Int)),(6,AV.int .i64 ((↑j:Int)+1))] [(100000,Ob.row 1 (List.map AV.str l))],by first|exact .inl ⟨rfl,rfl⟩|exact .inr ⟨rfl,rfl⟩,gA 60000 [.is true,.elt (.str x),.call (.bool true) [] []] [0,1,5,6] [K1 100000] (by kernel_rfl) (aC6 (d1 AV.str l j (by omega)) (show 0≤(j:Int)∧(j:Int)<(↑(l.map AV.str).length:Int) from by simp;omega) hx hs1 (w1 j (by omega)) (zsn5n4 l))⟩
 |false=>
  exact ⟨Out.normal,St.mk [(0,AV.row 100000 0 (List.length (List.map AV.str l))),(1,AV.clo 139 [] [AV.tptr [AV.seq (List.map AV.str ks) false]]),(5,AV.int .i64 ((↑i:Int)+1)),(6,AV.int .i64 ((↑j:Int)+1))] [(100000,Ob.row 1 (List.set (List.map AV.str l) (0+Int.toNat (↑i:Int)) (AV.str x)))],by first|exact .inl ⟨rfl,rfl⟩|exact .inr ⟨rfl,rfl⟩,gA 60000 [.is true,.elt (.str x),.call (.bool false) [] []] [0,1,5,6] [K1 100000] (by kernel_rfl) (aC9 (d1 AV.str l j (by omega)) (show 0≤(j:Int)∧(j:Int)<(↑(l.map AV.str).length:Int) from by simp;omega) (show ((List.map AV.str l)[0+Int.toNat (↑j:Int)]? :Option AV)=some (AV.str x) from by assumption) hs1 (show 0≤(i:Int)∧(i:Int)<(↑(l.map AV.str).length:Int) from by simp;omega) (show 0+Int.toNat (i:Int)<List.length (l.map AV.str) from by simp;omega) (w1 i (by omega)) (w1 j (by omega)) (show noIdsL (List.set (l.map AV.str) (0+Int.toNat (i:Int)) (AV.str x))=true from by simp))⟩
theorem e137:En 42 (loopOf Tryz.f137 0) ⟨[(0,.row 100000 0 (l.map AV.str).length),(1,.clo 139 [] [.tptr [.seq (ks.map .str) false]]),(5,.int .i64 (i:Int)),(6,.int .i64 ((l.length:Nat):Int))],[(100000,.row 1 (l.map .str))]⟩ (fun e t=>e= .exit 0∧t=⟨[(0,.row 100000 0 (l.map AV.str).length),(5,.int .i64 (i:Int))],[(100000,.row 1 (l.map .str))]⟩):=by
 exact gE ⟨rfl,rfl⟩ 60000 [.is false] [0,5] [K1 100000] (aC2 (zsma92 l) (zsn5n4 l))
theorem l137_0 (l ks:List ByteArray) (hks:ks.length<1000000000000000) (i:Nat) (hi:i<l.length) (hsm:l.length≤1000000000000):
  ∃(l':List ByteArray) (m:Nat),l'.length=l.length∧m≤l.length∧Lo 42 (loopOf Tryz.f137 0) ⟨[(0,.row 100000 0 (l.map AV.str).length),(1,.clo 139 [] [.tptr [.seq (ks.map .str) false]]),(5,.int .i64 (i:Int)),(6,.int .i64 ((i+1:Nat):Int))],[(100000,.row 1 (l.map .str))]⟩ (.exit 0) ⟨[(0,.row 100000 0 (l.map AV.str).length),(5,.int .i64 (m:Int))],[(100000,.row 1 (l'.map .str))]⟩:=by
 have h:=inv_loop0 (P:=Tryz.prog) (n:=42) (c:=loopOf Tryz.f137 0) (N:=l.length-(i+1)) (k:=0) (γ:=List ByteArray×Nat) (fun j g=>⟨[(0,.row 100000 0 (g.1.map AV.str).length),(1,.clo 139 [] [.tptr [.seq (ks.map .str) false]]),(5,.int .i64 (g.2:Int)),(6,.int .i64 ((i+1+j:Nat):Int))],[(100000,.row 1 (g.1.map .str))]⟩) (fun g=>⟨[(0,.row 100000 0 (g.1.map AV.str).length),(5,.int .i64 (g.2:Int))],[(100000,.row 1 (g.1.map .str))]⟩)
  (fun j g=>g.1.length=l.length∧g.2<i+1+j) (fun j g hj hg=> ?_) (fun g hg=> ?_) (l,i) ⟨rfl,by simp⟩
 ·obtain ⟨⟨l',m⟩,⟨h1,h2⟩,h⟩:=h
  refine ⟨l',m,h1,by simp only at h2;omega,?_⟩
  simp only [List.length_map] at h h1⊢
  rw [h1] at h
  exact h
 ·obtain ⟨g,m⟩:=g
  obtain ⟨h1,h2⟩:=hg
  simp only at h1 h2⊢
  have hlt:i+1+j<g.length:=by omega
  have hx:(g.map AV.str)[0+Int.toNat ((i+1+j:Nat):Int)]? =some (.str g[i+1+j]):=by
   rw [Nat.zero_add,Int.toNat_natCast,List.getElem?_map,List.getElem?_eq_getElem hlt];rfl
  obtain ⟨e,t,⟨rfl,rfl⟩|⟨rfl,rfl⟩,h⟩:=t137 g ks hks m (i+1+j) g[i+1+j] (by omega) hlt (by omega) hx
  ·exact ⟨_,_,⟨rfl,(g,m),⟨h1,by simp only;omega⟩,rfl⟩,h⟩
  ·refine ⟨_,_,⟨rfl,(g.set m g[i+1+j],m+1),⟨by simpa using h1,by simp only;omega⟩,?_⟩,h⟩
   rw [Nat.zero_add,Int.toNat_natCast,←List.map_set]
   simp only [List.length_map,List.length_set]
   rfl
 ·obtain ⟨g,m⟩:=g
  obtain ⟨h1,h2⟩:=hg
  simp only at h1 h2⊢
  have e:i+1+(l.length-(i+1))=g.length:=by omega
  rw [e]
  exact e137 g ks m
theorem b137c (l' ks:List ByteArray) (i m:Nat) (hll:l'.length=l.length) (hi:i<l.length) (hm:m≤l.length) (hsm:l.length≤1000000000000) (k186:Sp 186 [.row 100000 0 (l.map AV.str).length,.clo 139 [] [.tptr [.seq (ks.map .str) false]]] [Z299 l] (.int .i64 (i:Int)) []) (l137_0q:Lo 42 (loopOf Tryz.f137 0) ⟨[(0,.row 100000 0 (l.map AV.str).length),(1,.clo 139 [] [.tptr [.seq (ks.map .str) false]]),(5,.int .i64 (i:Int)),(6,.int .i64 ((i+1:Nat):Int))],[Z299 l]⟩ (.exit 0) ⟨[(0,.row 100000 0 (l.map AV.str).length),(5,.int .i64 (m:Int))],[(100000,.row 1 (l'.map AV.str))]⟩):En 42 (bodyOf Tryz.f137) (Z29v l ks) (fun e t=>e= .ret∧∃es:List AV,noIdsL es=true∧t=⟨[(4,.row 100000 0 (Int.toNat (m:Int)))],[(100000,.row 1 es)]⟩):=by
 have hs0:=k186
 have hl1:=l137_0q
 exact ⟨Out.ret,St.mk [(4,.row 100000 0 (Int.toNat (m:Int)))] [(100000,.row 1 (List.take (0+Int.toNat (m:Int)) (l'.map AV.str)++List.replicate (List.length (l.map AV.str)-Int.toNat (m:Int)) (.str (ByteArray.mk #[]))++List.drop (0+Int.toNat (m:Int)+(List.length (l.map AV.str)-Int.toNat (m:Int))) (l'.map AV.str)))],⟨rfl,_,by simp,rfl⟩,gA 60000 [.call (.int .i64 (i:Int)) [100000] [],.is false,.cut [0,1,5,6] [K1 100000],.sum (.exit 0) [(0,.row 100000 0 (l.map AV.str).length),(5,.int .i64 (m:Int))] [(100000,.row 1 (l'.map AV.str))]] [4] [K1 100000] (by kernel_rfl) (aC9 hs0 rF (w1 i (by omega)) (zsn5n4 l) hl1 (show 0≤(m:Int)∧(m:Int)≤(↑(l.map AV.str).length:Int) from by simp;omega) (show 0+Int.toNat (m:Int)+(List.length (l.map AV.str)-Int.toNat (m:Int))≤List.length (List.map AV.str l') from by simp;omega) (show 0≤(m:Int)∧0+Int.toNat (m:Int)≤List.length (List.take (0+Int.toNat (m:Int)) (List.map AV.str l')++List.replicate (List.length (l.map AV.str)-Int.toNat (m:Int)) (AV.str (ByteArray.mk #[]))++List.drop (0+Int.toNat (m:Int)+(List.length (l.map AV.str)-Int.toNat (m:Int))) (List.map AV.str l')) from by simp;omega) (show noIdsL (List.take (0+Int.toNat (m:Int)) (List.map AV.str l')++List.replicate (List.length (l.map AV.str)-Int.toNat (m:Int)) (AV.str (ByteArray.mk #[]))++List.drop (0+Int.toNat (m:Int)+(List.length (l.map AV.str)-Int.toNat (m:Int))) (List.map AV.str l'))=true from by simp))⟩
theorem k137r (hks:ks.length<1000000000000000) (hsm:l.length≤1000000000000):∃(m:Nat) (es:List AV),m≤l.length∧noIdsL es=true∧
  Sp 137 [.row 100000 0 (l.map AV.str).length,.clo 139 [] [.tptr [.seq (ks.map .str) false]]] [Z299 l] (.row 100000 0 m) [(100000,.row 1 es)]:=by
 have ob:∀id o,(id,o)∈[Z299 l]→renOb (idT [Z299 l]) o=o:=by
  intro id o hm
  rw [List.mem_singleton] at hm
  injection hm with h1 h2
  subst h1;subst h2
  simp only [renOb,renL_noIds _ _ (noIdsL_strs l)]
 rcases k186s l ks hks (by omega) with ⟨i,hi,sp⟩|sp
 ·obtain ⟨l',m,h1,h2,hL⟩:=l137_0 l ks hks i hi hsm
  obtain ⟨e,t,⟨rfl,es,hes,rfl⟩,h⟩:=b137c l l' ks i m h1 hi h2 hsm (k186w l ks _ sp) hL
  exact ⟨_,es,h2,hes,sG Tryz.f137 ob h (.inr rfl)⟩
 ·obtain ⟨e,t,⟨rfl,rfl⟩,h⟩:=b137n l ks (k186w l ks _ sp)
  exact ⟨(l.map AV.str).length,_,by simp,noIdsL_strs l,sG Tryz.f137 ob h (.inr rfl)⟩
abbrev Z29a:Nat×Ob:=(45007,.row 1 (l.map AV.str))
theorem k137w (hks:ks.length<1000000000000000) (hsm:l.length≤1000000000000):∃(m:Nat) (es:List AV),m≤l.length∧
  Sp 137 [.row 45007 0 (l.map AV.str).length,.clo 139 [] [.tptr [.seq (ks.map .str) false]]] [Z29a l] (.row 45007 0 m) [(45007,.row 1 es)]:=by
 obtain ⟨m,es,h1,h2,h⟩:=k137r l ks hks hsm
 exact ⟨m,_,h1,h.renum [(100000,45007,.row 1 (l.map .str))] [(100000,45007)] (args':=[.row 45007 0 (l.map AV.str).length,.clo 139 [] [.tptr [.seq (ks.map .str) false]]]) rfl (by simp only [List.map_cons,List.map_nil,renOb,renL_noIds _ _ (noIdsL_strs l)]) rfl⟩
theorem k138r (hne:l≠[]) (hl:l.length<100000000):Sp 138 [.seq (l.map AV.str) false] [] (.row 45007 0 (l.map AV.str).length) [Z29a l]:=by
 cases l with
 |nil=>exact absurd rfl hne
 |cons x l=>
  obtain ⟨e,t,⟨rfl,rfl⟩,h⟩:=c138c (AV.str x) (l.map AV.str) (fun z hz=>by
   obtain ⟨y,_,rfl⟩:=List.mem_map.1 (show z∈(x::l).map AV.str from hz)
   simp) (noIdsL_strs (x::l)) (by simp at hl;simp;omega)
  have h1:Sp 138 [.seq ((x::l).map AV.str) false] [] (.row 7 0 ((x::l).map AV.str).length) [(7,.row 1 ((x::l).map AV.str))]:=Spec.newP (st':=⟨[(2,.row 7 0 ((x::l).map AV.str).length)],[(7,.row 1 ((x::l).map AV.str))]⟩) (fn:=Tryz.f138) (c:=bodyOf Tryz.f138) (by kernel_rfl) (by kernel_rfl) rfl rfl h.p (.inr rfl) (by kernel_rfl)
  have h2:=h1.renum [] [(7,45007)] (args':=[.seq ((x::l).map AV.str) false]) rfl rfl rfl
  have e:renL (kOut [(7,45007)]) ((x::l).map AV.str)=(x::l).map AV.str:=renL_noIds _ _ (noIdsL_strs (x::l))
  simp only [List.map_cons,List.map_nil,renOb] at h2 e⊢
  rw [e] at h2
  exact h2
theorem b137z (k186:Sp 186 [.seq [] false,.clo 139 [] [.tptr [.seq (ks.map .str) false]]] [] (.int .i64 (-1)) []):En 42 (bodyOf Tryz.f137) ⟨[(0,.seq [] false),(1,.clo 139 [] [.tptr [.seq (ks.map .str) false]])],[]⟩ (fun e t=>e= .ret∧t=⟨[(4,.seq [] false)],[]⟩):=by
 have hs0:=k186
 exact gE ⟨rfl,rfl⟩ 60000 [.call (.int .i64 (-1)) [] [],.is true] [4] [] (aC2 hs0 rT)
theorem k137z (hks:ks.length<1000000000000000):Sp 137 [.seq [] false,.clo 139 [] [.tptr [.seq (ks.map .str) false]]] [] (.seq [] false) []:=by
 rcases k186s [] ks hks (by simp) with ⟨i,hi,sp⟩|sp
 ·simp at hi
 ·obtain ⟨e,t,⟨rfl,rfl⟩,h⟩:=b137z ks sp
  exact sQ Tryz.f137 h
abbrev Z29w (rn:Int):St:=⟨[(3,.int .i64 rn)],[]⟩
theorem b136z (k138:Sp 138 [.seq [] false] [] (.seq [] false) []) (k137:Sp 137 [.seq [] false,.clo 139 [] [.tptr [.seq (ks.map .str) false]]] [] (.seq [] false) []):En 12 (bodyOf Tryz.f136) ⟨[(0,.seq [] false),Z290 ks],[]⟩ (fun e t=>e= .ret∧∃rn:Int,t=(Z29w rn)):=by
 have hs0:=k138
 have hs1:=k137
 exact ⟨Out.ret,St.mk [(3,.int .i64 0)] [],⟨rfl,_,rfl⟩,gA 0 [.call (.seq [] false) [] [],.call (.seq [] false) [] []] [3] [] (by kernel_rfl) (aC3 hs0 hs1 (show (0:Int)=(0:Int) from rfl))⟩
theorem b136c (m:Nat) (es:List AV) (hml:(l.map AV.str).length=l.length) (hl:l.length<100000000) (hm:m≤l.length) (k138:Sp 138 [.seq (l.map AV.str) false] [] (.row 45007 0 (l.map AV.str).length) [Z29a l]) (k137:Sp 137 [.row 45007 0 (l.map AV.str).length,.clo 139 [] [.tptr [.seq (ks.map .str) false]]] [Z29a l] (.row 45007 0 m) [(45007,.row 1 es)]):En 12 (bodyOf Tryz.f136) ⟨[Z292 l,Z290 ks],[]⟩ (fun e t=>e= .ret∧∃rn:Int,t=(Z29w rn)):=by
 have hs0:=k138
 have hs1:=k137
 exact ⟨Out.ret,St.mk [(3,.int .i64 ((↑(l.map AV.str).length:Int)-(m:Int)))] [],⟨rfl,_,rfl⟩,gA 0 [.call (.row 45007 0 (l.map AV.str).length) [] [Z29a l],.call (.row 45007 0 m) [45007] [(45007,.row 1 es)]] [3] [] (by kernel_rfl) (aC3 hs0 hs1 (show IntKind.wrap .i64 ((↑(l.map AV.str).length:Int)-(m:Int))=(↑(l.map AV.str).length:Int)-(m:Int) from wrap64_id (by omega) (by omega)))⟩
theorem k136 (hks:ks.length<1000000000000000) (hl:l.length<100000000):∃rn:Int,Sp 136 [.seq (l.map .str) false,.tptr [.seq (ks.map .str) false]] [] (.int .i64 rn) []:=by
 have fin:∀rn:Int,Rz 12 (bodyOf Tryz.f136) ⟨[Z292 l,Z290 ks],[]⟩ .ret (Z29w rn)→∃rn:Int,Sp 136 [.seq (l.map .str) false,.tptr [.seq (ks.map .str) false]] [] (.int .i64 rn) []:=fun rn h=>
  ⟨rn,sQ Tryz.f136 h⟩
 by_cases hn:l=[]
 ·subst hn
  obtain ⟨e,t,⟨rfl,rn,rfl⟩,h⟩:=b136z ks (k138 [] (by simp)) (k137z ks hks)
  exact fin rn h
 ·obtain ⟨m,es,h1,sp⟩:=k137w l ks hks (by omega)
  obtain ⟨e,t,⟨rfl,rn,rfl⟩,h⟩:=b136c l ks m es (List.length_map ..) hl h1 (k138r l hn hl) sp
  exact fin rn h
abbrev Z29b:Nat×AV:=(3,.tptr [.seq (ks.map AV.str) false])
abbrev Z29c:Nat×AV:=(6,.int .i64 p)
abbrev Z29d:Nat×AV:=(7,.int .i64 s)
abbrev Z29e:Nat×AV:=(12,.seq (bd.map Li.av) false)
abbrev Z29f:Nat×AV:=(13,.int .i64 ((bd.map Li.av).length:Nat))
abbrev Z29g:Nat×AV:=(14,.int .i64 (i:Int))
abbrev Z29h:Nat×AV:=(5,.clo 136 [] [.tptr [.seq (ks.map AV.str) false]])
abbrev Z29i:Nat×AV:=(13,.int .i64 (↑(bd.map Li.av).length:Int))
abbrev Z29j:Nat×AV:=(14,.int .i64 ((i:Int)+1))
theorem t83 (hks:ks.length<1000000000000000) (i:Nat) (hi:i<bd.length) (hsm:bd.length≤1000) (hp: -1≤p∧p<i) (hs: -1≤s∧s<i) (hT:∀y:Li,y∈bd→y.terms.length<1000∧y.l.terms.length<1000∧y.r.terms.length<1000∧(varsOf y.terms).length<1000∧(varsOf y.l.terms).length<1000∧(varsOf y.r.terms).length<1000):En 69 (loopOf Tryz.f83 0) ⟨[Z29b ks,(5,.clo 136 [] [.tptr [.seq (ks.map .str) false]]),Z29c p,Z29d s,Z29e bd,Z29f bd,Z29g i],[]⟩ (fun e t=>(e= .ret∧t=(Z29q i))∨(e= .normal∧∃p2 s2:Int,t=⟨[Z29b ks,(5,.clo 136 [] [.tptr [.seq (ks.map .str) false]]),(6,.int .i64 p2),(7,.int .i64 s2),Z29e bd,Z29f bd,(14,.int .i64 ((i+1:Nat):Int))],[]⟩∧(-1≤p2∧p2<(i+1:Nat))∧ -1≤s2∧s2<(i+1:Nat))):=by
 obtain ⟨x0,hm0,hx0⟩:=elt_of Li.av (l:=bd) (n:=(↑i:Int)) (by omega) (by omega)
 have hs1:=k52 x0 (by (have hq:=hT _ (List.mem_of_getElem? hm0);omega))
 obtain ⟨r2,hs3⟩:=k136 (varsOf (Li.terms x0)) (ks) (by assumption) (by (have hq:=hT _ (List.mem_of_getElem? hm0);omega))
 rcases bft (decide (x0.1=1)) with h4|h4
 ·rcases bft (decide (p<0)) with h5|h5
  ·exact ⟨Out.normal,St.mk [Z29b ks,Z29h ks,(6,.int .i64 (i:Int)),Z29d s,Z29e bd,Z29i bd,Z29j i] [],.inr ⟨rfl,_,_,rfl,by omega,by omega,by omega⟩,gA 0 [.is true,.elt (.agg x0.cells),.call (.seq (List.map AV.str (varsOf (Li.terms x0))) false) [] [],.call (.int .i64 r2) [] [],.is true,.is true] [3,5,6,7,12,13,14] [] (by kernel_rfl) (aC7 (d1 Li.av bd i (by omega)) hx0 hs1 hs3 h4 h5 (w1 i (by omega)))⟩
  ·exact ⟨Out.normal,St.mk [Z29b ks,Z29h ks,Z29c p,Z29d s,Z29e bd,Z29i bd,Z29j i] [],.inr ⟨rfl,_,_,rfl,by omega,by omega,by omega⟩,gA 0 [.is true,.elt (.agg x0.cells),.call (.seq (List.map AV.str (varsOf (Li.terms x0))) false) [] [],.call (.int .i64 r2) [] [],.is true,.is false] [3,5,6,7,12,13,14] [] (by kernel_rfl) (aC7 (d1 Li.av bd i (by omega)) hx0 hs1 hs3 h4 h5 (w1 i (by omega)))⟩
 ·rcases bft (decide (r2=0)) with h5|h5
  ·exact gE (.inl ⟨rfl,rfl⟩) 0 [.is true,.elt (.agg x0.cells),.call (.seq (List.map AV.str (varsOf (Li.terms x0))) false) [] [],.call (.int .i64 r2) [] [],.is false,.is true] [4] [] (aC6 (d1 Li.av bd i (by omega)) hx0 hs1 hs3 h4 h5)
  ·rcases bft (decide (s<0)) with h6|h6
   ·rcases bft (decide (x0.4=1)) with h7|h7
    ·rcases bft (decide (r2=1)) with h8|h8
     ·obtain ⟨r9,hs10⟩:=k140 (Li.l x0) (Li.r x0) (ks) (by assumption) (by (have hq:=hT _ (List.mem_of_getElem? hm0);omega)) (by (have hq:=hT _ (List.mem_of_getElem? hm0);omega))
      cases r9 with
      |true=>
       exact ⟨Out.normal,St.mk [Z29b ks,Z29h ks,Z29c p,(7,.int .i64 (i:Int)),Z29e bd,Z29i bd,Z29j i] [],.inr ⟨rfl,_,_,rfl,by omega,by omega,by omega⟩,gA 0 [.is true,.elt (.agg x0.cells),.call (.seq (List.map AV.str (varsOf (Li.terms x0))) false) [] [],.call (.int .i64 r2) [] [],.is false,.is false,.is true,.is true,.is true,.call (.bool true) [] []] [3,5,6,7,12,13,14] [] (by kernel_rfl) (aC11 (d1 Li.av bd i (by omega)) hx0 hs1 hs3 h4 h5 h6 h7 h8 hs10 (w1 i (by omega)))⟩
      |false=>
       obtain ⟨r11,hs12⟩:=k140 (Li.r x0) (Li.l x0) (ks) (by assumption) (by (have hq:=hT _ (List.mem_of_getElem? hm0);omega)) (by (have hq:=hT _ (List.mem_of_getElem? hm0);omega))
       cases r11 with
       |true=>
        exact ⟨Out.normal,St.mk [Z29b ks,Z29h ks,Z29c p,(7,.int .i64 (i:Int)),Z29e bd,Z29i bd,Z29j i] [],.inr ⟨rfl,_,_,rfl,by omega,by omega,by omega⟩,gA 0 [.is true,.elt (.agg x0.cells),.call (.seq (List.map AV.str (varsOf (Li.terms x0))) false) [] [],.call (.int .i64 r2) [] [],.is false,.is false,.is true,.is true,.is true,.call (.bool false) [] [],.call (.bool true) [] []] [3,5,6,7,12,13,14] [] (by kernel_rfl) (aC12 (d1 Li.av bd i (by omega)) hx0 hs1 hs3 h4 h5 h6 h7 h8 hs10 hs12 (w1 i (by omega)))⟩
       |false=>
        exact ⟨Out.normal,St.mk [Z29b ks,Z29h ks,Z29c p,Z29d s,Z29e bd,Z29i bd,Z29j i] [],.inr ⟨rfl,_,_,rfl,by omega,by omega,by omega⟩,gA 0 [.is true,.elt (.agg x0.cells),.call (.seq (List.map AV.str (varsOf (Li.terms x0))) false) [] [],.call (.int .i64 r2) [] [],.is false,.is false,.is true,.is true,.is true,.call (.bool false) [] [],.call (.bool false) [] []] [3,5,6,7,12,13,14] [] (by kernel_rfl) (aC12 (d1 Li.av bd i (by omega)) hx0 hs1 hs3 h4 h5 h6 h7 h8 hs10 hs12 (w1 i (by omega)))⟩
     ·exact ⟨Out.normal,St.mk [Z29b ks,Z29h ks,Z29c p,Z29d s,Z29e bd,Z29i bd,Z29j i] [],.inr ⟨rfl,_,_,rfl,by omega,by omega,by omega⟩,gA 0 [.is true,.elt (.agg x0.cells),.call (.seq (List.map AV.str (varsOf (Li.terms x0))) false) [] [],.call (.int .i64 r2) [] [],.is false,.is false,.is true,.is true,.is false] [3,5,6,7,12,13,14] [] (by kernel_rfl) (aC10 (d1 Li.av bd i (by omega)) hx0 hs1 hs3 h4 h5 h6 h7 h8 (w1 i (by omega)))⟩
    ·exact ⟨Out.normal,St.mk [Z29b ks,Z29h ks,Z29c p,Z29d s,Z29e bd,Z29i bd,Z29j i] [],.inr ⟨rfl,_,_,rfl,by omega,by omega,by omega⟩,gA 0 [.is true,.elt (.agg x0.cells),.call (.seq (List.map AV.str (varsOf (Li.terms x0))) false) [] [],.call (.int .i64 r2) [] [],.is false,.is false,.is true,.is false] [3,5,6,7,12,13,14] [] (by kernel_rfl) (aC9 (d1 Li.av bd i (by omega)) hx0 hs1 hs3 h4 h5 h6 h7 (w1 i (by omega)))⟩
   ·exact ⟨Out.normal,St.mk [Z29b ks,Z29h ks,Z29c p,Z29d s,Z29e bd,Z29i bd,Z29j i] [],.inr ⟨rfl,_,_,rfl,by omega,by omega,by omega⟩,gA 0 [.is true,.elt (.agg x0.cells),.call (.seq (List.map AV.str (varsOf (Li.terms x0))) false) [] [],.call (.int .i64 r2) [] [],.is false,.is false,.is false] [3,5,6,7,12,13,14] [] (by kernel_rfl) (aC8 (d1 Li.av bd i (by omega)) hx0 hs1 hs3 h4 h5 h6 (w1 i (by omega)))⟩
abbrev Z29x:St:=⟨[Z29c p,Z29d s],[]⟩
theorem e83:En 69 (loopOf Tryz.f83 0) ⟨[Z29b ks,(5,.clo 136 [] [.tptr [.seq (ks.map .str) false]]),Z29c p,Z29d s,Z29e bd,Z29f bd,(14,.int .i64 ((bd.length:Nat):Int))],[]⟩ (fun e t=>e= .exit 0∧t=(Z29x p s)):=by
 exact gE ⟨rfl,rfl⟩ 0 [.is false] [6,7] [] (aC1 (zsvzxo bd))
def tinyB (bd:List Li):Prop:=∀y:Li,y∈bd→y.terms.length<1000∧y.l.terms.length<1000∧y.r.terms.length<1000∧(varsOf y.terms).length<1000∧(varsOf y.l.terms).length<1000∧(varsOf y.r.terms).length<1000
theorem varsOf_len (ts:List Tm):(varsOf ts).length≤ts.length:=by
 have:=addT_len ts []
 simpa [varsOf] using this
theorem tinyB_of {bd:List Li} (h:∀y,y∈bd→y.terms.length<1000):tinyB bd:=fun y hy=>by
 have h1:=h y hy
 have h2:=h1
 unfold Li.terms at h1
 simp only [List.length_append] at h1
 have:=varsOf_len y.terms
 have:=varsOf_len y.l.terms
 have:=varsOf_len y.r.terms
 refine ⟨h2,?_,?_,?_,?_,?_⟩<;>omega
abbrev Z29k:Nat×AV:=(6,.int .i64 (-1))
abbrev Z29l:Nat×AV:=(7,.int .i64 (-1))
abbrev Z29m:Nat×AV:=(14,.int .i64 0)
abbrev Z29y:St:=⟨[Z29b ks,(5,.clo 136 [] [.tptr [.seq (ks.map .str) false]]),Z29k,Z29l,Z29e bd,Z29f bd,Z29m],[]⟩
theorem l83_0 (hks:ks.length<1000000000000000) (hsm:bd.length≤1000) (hT:tinyB bd):
  (∃i,i<bd.length∧Lo 69 (loopOf Tryz.f83 0) (Z29y bd ks) .ret (Z29t i))∨
  ∃p s:Int,(-1≤p∧p<bd.length)∧(-1≤s∧s<bd.length)∧Lo 69 (loopOf Tryz.f83 0) (Z29y bd ks) (.exit 0) (Z29x p s):=by
 have T:∀(i:Nat) (g:Int×Int),i<bd.length→((-1≤g.1∧g.1<(i:Int))∧ -1≤g.2∧g.2<(i:Int))→En 69 (loopOf Tryz.f83 0) ⟨[Z29b ks,(5,.clo 136 [] [.tptr [.seq (ks.map .str) false]]),(6,.int .i64 g.1),(7,.int .i64 g.2),Z29e bd,Z29f bd,Z29g i],[]⟩ (fun e t=>(e= .ret∧∃i:Nat,i<bd.length∧t=(Z29q i))∨(e= .normal∧∃g':Int×Int,((-1≤g'.1∧g'.1<((i+1:Nat):Int))∧ -1≤g'.2∧g'.2<((i+1:Nat):Int))∧t=⟨[Z29b ks,(5,.clo 136 [] [.tptr [.seq (ks.map .str) false]]),(6,.int .i64 g'.1),(7,.int .i64 g'.2),Z29e bd,Z29f bd,(14,.int .i64 ((i+1:Nat):Int))],[]⟩)):=by
  intro i g hi hg
  obtain ⟨e,t,⟨rfl,rfl⟩|⟨rfl,p2,s2,rfl,h1,h2⟩,h⟩:=t83 bd ks g.1 g.2 hks i hi hsm hg.1 hg.2 hT
  ·exact ⟨_,_,.inl ⟨rfl,i,hi,rfl⟩,h⟩
  ·exact ⟨_,_,.inr ⟨rfl,(p2,s2),⟨h1,h2⟩,rfl⟩,h⟩
 rcases inv_loop (P:=Tryz.prog) (n:=69) (c:=loopOf Tryz.f83 0) (N:=bd.length) (k:=0) (γ:=Int×Int) (fun i g=>⟨[Z29b ks,(5,.clo 136 [] [.tptr [.seq (ks.map .str) false]]),(6,.int .i64 g.1),(7,.int .i64 g.2),Z29e bd,Z29f bd,Z29g i],[]⟩) (fun g=>⟨[(6,.int .i64 g.1),(7,.int .i64 g.2)],[]⟩) (fun t=>∃i:Nat,i<bd.length∧t=(Z29q i)) (fun i g=>(-1≤g.1∧g.1<(i:Int))∧ -1≤g.2∧g.2<(i:Int)) T (fun g _=>e83 bd ks g.1 g.2) (-1,-1) (by simp) with ⟨t,h,i,hi,rfl⟩|⟨g,⟨h1,h2⟩,h⟩
 ·exact .inl ⟨i,hi,h⟩
 ·exact .inr ⟨g.1,g.2,h1,h2,h⟩
abbrev Z29n:Nat×AV:=(0,.seq (bd.map Li.av) false)
abbrev Z29o:Nat×AV:=(4,.int .i64 0)
abbrev Z29z:St:=⟨[Z29n bd,Z29b ks,Z29o],[]⟩
theorem w83:EN 69 (partC 0 (bodyOf Tryz.f83)) ⟨[Z29n bd,(1,.seq (ks.map AV.str) false)],[]⟩ (Z29z bd ks):=by
 exact gE ⟨rfl,rfl⟩ 0 [] [0,3,4] [(3,.freeze)] (aC1 rT)
theorem b83r (l83_0q:Lo 69 (loopOf Tryz.f83 0) (Z29y bd ks) .ret (Z29t i)):En 69 (restC 1 (bodyOf Tryz.f83)) (Z29z bd ks) (fun e t=>e= .ret∧t=(Z29t i)):=by
 have hl0:=l83_0q
 exact gE ⟨rfl,rfl⟩ 0 [.cut [3,5,6,7,12,13,14] [],.sum .ret [Z296 i] []] [4] [] (aC1 hl0)
theorem b83e (hb:0<bd.length) (hp: -1≤p∧p<bd.length) (hs: -1≤s∧s<bd.length) (l83_0q:Lo 69 (loopOf Tryz.f83 0) (Z29y bd ks) (.exit 0) (Z29x p s)):En 69 (restC 1 (bodyOf Tryz.f83)) (Z29z bd ks) (fun e t=>e= .ret∧∃rn:Int,(0≤rn∧rn<bd.length)∧t=⟨[(4,.int .i64 rn)],[]⟩):=by
 have hl0:=l83_0q
 rcases bft (decide (0≤p)) with h1|h1
 ·exact ⟨Out.ret,St.mk [(4,.int .i64 p)] [],⟨rfl,_,by first|(simp at*;omega)|(split<;>omega)|(cases Int.decLt s 0<;>(dsimp only;omega)),rfl⟩,gA 0 [.cut [3,5,6,7,12,13,14] [],.sum (.exit 0) [Z29c p,Z29d s] [],.is true] [4] [] (by kernel_rfl) (aC2 hl0 h1)⟩
 ·exact ⟨Out.ret,St.mk [(4,.int .i64 (Decidable.rec (fun (h:¬0>s)=>(fun (x:¬0>s)=>s) h) (fun (h:0>s)=>(fun (x:0>s)=>0) h) (Int.decLt s 0)))] [],⟨rfl,_,by first|(simp at*;omega)|(split<;>omega)|(cases Int.decLt s 0<;>(dsimp only;omega)),rfl⟩,gA 0 [.cut [3,5,6,7,12,13,14] [],.sum (.exit 0) [Z29c p,Z29d s] [],.is false] [4] [] (by kernel_rfl) (aC2 hl0 h1)⟩
theorem k83 (hne:bd≠[]) (hks:ks.length<1000000000000000) (hsm:bd.length≤1000) (hT:tinyB bd):∃i:Nat,i<bd.length∧Sp 83 [.seq (bd.map Li.av) false,.seq (ks.map .str) false] [] (.int .i64 (i:Int)) []:=by
 have hb:0<bd.length:=List.length_pos_iff.2 hne
 obtain ⟨e,t,⟨rfl,rfl⟩,r0⟩:=w83 bd ks
 have fin:∀i:Nat,Rz 69 (restC 1 (bodyOf Tryz.f83)) (Z29z bd ks) .ret ⟨[(4,.int .i64 (i:Int))],[]⟩→Sp 83 [.seq (bd.map Li.av) false,.seq (ks.map .str) false] [] (.int .i64 (i:Int)) []:=fun i h=>
  sQ Tryz.f83 (Runs.nth 0 (by kernel_rfl) r0 h)
 rcases l83_0 bd ks hks hsm hT with ⟨i,hi,hL⟩|⟨p,s,hp,hs,hL⟩
 ·obtain ⟨e,t,⟨rfl,rfl⟩,h⟩:=b83r bd ks i hL
  exact ⟨i,hi,fin i h⟩
 ·obtain ⟨e,t,⟨rfl,rn,hr,rfl⟩,h⟩:=b83e bd ks p s hb hp hs hL
  have e:rn=((rn.toNat:Nat):Int):=by omega
  rw [e] at h
  exact ⟨rn.toNat,by omega,fin _ h⟩
end
section
variable (bd:List Li) (i:Nat)
@[simp] theorem noIdsL_take {l:List AV} (n:Nat) (h:noIdsL l=true):noIdsL (l.take n)=true:=noIdsL_iff.2 fun x hx=>noIdsL_iff.1 h x (List.mem_of_mem_take hx)
@[simp] theorem noIdsL_drop {l:List AV} (n:Nat) (h:noIdsL l=true):noIdsL (l.drop n)=true:=noIdsL_iff.2 fun x hx=>noIdsL_iff.1 h x (List.mem_of_mem_drop hx)
@[simp] theorem nJ_nils:noIds .nils=true:=rfl
@[simp] theorem noIdsL_rep:∀(n:Nat) (x:AV),noIdsL (List.replicate n x)=(Nat.beq n 0||noIds x)
  |0,x=>rfl
  |n+1,x=>by
   rw [List.replicate_succ,nJ_cons,noIdsL_rep n x]
   cases noIds x
   ·rfl
   ·simp
@[simp] theorem noIdsL_lis' (l:List Li):noIdsL (l.map Li.av)=true:=noIdsL_lis l
theorem noIdsL_andI {a b:List AV} (h:noIdsL a=true) (k:noIdsL b=true):noIdsL (a++b)=true:=by rw [noIdsL_app,h,k];rfl
theorem noIdsL_repI (n:Nat) {x:AV} (h:noIds x=true):noIdsL (List.replicate n x)=true:=by rw [noIdsL_rep,h];simp
theorem del_take {α:Type} (L:List α) (i i' j' k s p q r:Nat) (z:α) (hi:i<L.length) (h1:i'=i) (h2:j'=i+1) (h3:k=L.length-(i+1)) (h4:p=L.length-1):
  (List.take p (List.take i' L++List.take k (List.drop j' L)++List.drop s L)++List.replicate q z++List.drop r (List.take i' L++List.take k (List.drop j' L)++List.drop s L)).take (L.length-1)=L.eraseIdx i:=by
 subst h1;subst h2;subst h3;subst h4
 have e:List.take (L.length-(i'+1)) (List.drop (i'+1) L)=List.drop (i'+1) L:=List.take_of_length_le (by simp)
 have hl:(List.take i' L++List.drop (i'+1) L).length=L.length-1:=by
  simp only [List.length_append,List.length_take,List.length_drop];omega
 rw [e,List.eraseIdx_eq_take_drop_succ]
 have e2:List.take (L.length-1) (List.take i' L++List.drop (i'+1) L++List.drop s L)=List.take i' L++List.drop (i'+1) L:=by rw [←hl,List.take_left]
 rw [e2,List.append_assoc,←hl,List.take_left]
theorem del_last {α:Type} (L:List α) (i p q r:Nat) (z:α) (hi:i+1=L.length) (h4:p=i):
  (List.take p L++List.replicate q z++List.drop r L).take (L.length-1)=L.eraseIdx i:=by
 subst h4
 have hl:(List.take p L).length=L.length-1:=by rw [List.length_take];omega
 have e:List.drop (p+1) L=[]:=List.drop_of_length_le (by omega)
 rw [List.eraseIdx_eq_take_drop_succ,e,List.append_nil,List.append_assoc,←hl,List.take_left]
theorem le_cut {n:Nat} {st:St} (id m:Nat) {sz:Nat} {es:List AV} (ho:look st.hp id=some (.row sz es)):Le n st ⟨st.env,putL st.hp id (.row sz (es.take m))⟩:=by
 rintro F a w ⟨S,β,E,M⟩
 obtain ⟨bi,h1,h2,cur,t,g1,g2,g3,g4,g5,g6⟩:=M.obs id _ ho
 have sub:∀{i:Nat} {e:AV},(es.take m)[i]? =some e→es[i]? =some e:=fun {i e} h=>by
  rw [List.getElem?_take] at h
  split at h
  ·exact h
  ·cases h
 obtain ⟨x,M'⟩:=M.turn (w':=w) h1 ho (by simp) ⟨rfl,rfl,rfl,Nat.le_refl _,fun _ _ _=>rfl⟩ (.row sz (es.take m)) ⟨bi,h1,h2,cur,t,g1,g2,by rw [List.length_take];omega,g4,fun i e h=>g5 i e (sub h),fun i j e c h k=>g6 i j e c (sub h) k⟩ (fun j sz es h=>by cases h)
 exact ⟨S,β,E,M'⟩
abbrev Z2a0:Nat×AV:=(1,.int .i64 (i:Int))
abbrev Z2a1:Nat×AV:=(2,.int .i64 ((i+1:Nat):Int))
abbrev Z2a2:Nat×Ob:=(100000,.row 16 (bd.map Li.av))
abbrev Z2a3 (m:Nat):Nat×AV:=(6,.row 100000 0 m)
abbrev Z2a4 (es:List AV):Nat×Ob:=(100000,.row 16 es)
abbrev Z2a6:St:=⟨[(0,.row 100000 0 (bd.map Li.av).length),Z2a0 i,Z2a1 i],[Z2a2 bd]⟩
theorem b85a (hl:(bd.map Li.av).length=bd.length) (hsm:bd.length≤1000) (hi:i+1<bd.length) (hc:0+Int.toNat ((i+1:Nat):Int)+((bd.map Li.av).length-Int.toNat ((i+1:Nat):Int))≤(bd.map Li.av).length∧(0:Nat)=0∧Int.toNat (i:Int)+(List.take ((bd.map Li.av).length-Int.toNat ((i+1:Nat):Int)) (List.drop (0+Int.toNat ((i+1:Nat):Int)) (bd.map Li.av))).length≤(bd.map Li.av).length∧(∀e,e∈(List.take ((bd.map Li.av).length-Int.toNat ((i+1:Nat):Int)) (List.drop (0+Int.toNat ((i+1:Nat):Int)) (bd.map Li.av)))→okE 16 e)∧(List.take ((bd.map Li.av).length-Int.toNat ((i+1:Nat):Int)) (List.drop (0+Int.toNat ((i+1:Nat):Int)) (bd.map Li.av)))≠[]):En 33 (bodyOf Tryz.f85) (Z2a6 bd i) (fun e t=>e= .ret∧∃(m:Nat) (es:List AV),m=bd.length-1∧es.take ((bd.map Li.av).length-1)=(bd.map Li.av).eraseIdx i∧t=⟨[Z2a3 m],[Z2a4 es]⟩):=by
 exact ⟨Out.ret,St.mk [(6,.row 100000 0 (Int.toNat (i:Int)+List.length (List.take (List.length (bd.map Li.av)-Int.toNat (↑(i+1):Int)) (List.drop (0+Int.toNat (↑(i+1):Int)) (bd.map Li.av)))))] [(100000,.row 16 (List.take (0+Int.toNat (↑(Int.toNat (i:Int)+List.length (List.take (List.length (bd.map Li.av)-Int.toNat (↑(i+1):Int)) (List.drop (0+Int.toNat (↑(i+1):Int)) (bd.map Li.av)))):Int)) (List.take (Int.toNat (i:Int)) (bd.map Li.av)++List.take (List.length (bd.map Li.av)-Int.toNat (↑(i+1):Int)) (List.drop (0+Int.toNat (↑(i+1):Int)) (bd.map Li.av))++List.drop (Int.toNat (i:Int)+List.length (List.take (List.length (bd.map Li.av)-Int.toNat (↑(i+1):Int)) (List.drop (0+Int.toNat (↑(i+1):Int)) (bd.map Li.av)))) (bd.map Li.av))++List.replicate (Int.toNat (↑(bd.map Li.av).length:Int)-Int.toNat (↑(Int.toNat (i:Int)+List.length (List.take (List.length (bd.map Li.av)-Int.toNat (↑(i+1):Int)) (List.drop (0+Int.toNat (↑(i+1):Int)) (bd.map Li.av)))):Int)) (.agg [.int .i8 0,.str (ByteArray.mk #[]),.nils,.int .i8 0,.int .i8 0,.str (ByteArray.mk #[]),.int .i8 0,.int .i64 0,.str (ByteArray.mk #[]),.nils,.int .i8 0,.str (ByteArray.mk #[]),.int .i8 0,.int .i64 0,.str (ByteArray.mk #[]),.nils])++List.drop (0+Int.toNat (↑(Int.toNat (i:Int)+List.length (List.take (List.length (bd.map Li.av)-Int.toNat (↑(i+1):Int)) (List.drop (0+Int.toNat (↑(i+1):Int)) (bd.map Li.av)))):Int)+(Int.toNat (↑(bd.map Li.av).length:Int)-Int.toNat (↑(Int.toNat (i:Int)+List.length (List.take (List.length (bd.map Li.av)-Int.toNat (↑(i+1):Int)) (List.drop (0+Int.toNat (↑(i+1):Int)) (bd.map Li.av)))):Int))) (List.take (Int.toNat (i:Int)) (bd.map Li.av)++List.take (List.length (bd.map Li.av)-Int.toNat (↑(i+1):Int)) (List.drop (0+Int.toNat (↑(i+1):Int)) (bd.map Li.av))++List.drop (Int.toNat (i:Int)+List.length (List.take (List.length (bd.map Li.av)-Int.toNat (↑(i+1):Int)) (List.drop (0+Int.toNat (↑(i+1):Int)) (bd.map Li.av)))) (bd.map Li.av))))],⟨rfl,_,_,by (simp;omega),by (refine del_take _ i _ _ _ _ _ _ _ _ ?_ ?_ ?_ ?_ ?_<;>(simp;try omega)),rfl⟩,gA 60000 [.is false,.text (ByteArray.mk #[])] [6] [K1 100000] (by kernel_rfl) (aC8 (show 0≤(i:Int)∧(i:Int)≤(↑(i+1):Int)∧(↑(i+1):Int)≤(↑(bd.map Li.av).length:Int)∧0+Int.toNat (↑(bd.map Li.av).length:Int)≤List.length (bd.map Li.av) from by omega) (show decide ((i:Int)=(↑(i+1):Int))=false from decide_eq_false (by omega)) (show 0≤(i:Int)∧0+Int.toNat (i:Int)≤List.length (bd.map Li.av) from by omega) (show 0≤(↑(i+1):Int)∧(↑(i+1):Int)≤(↑(bd.map Li.av).length:Int) from by omega) hc (show 0≤(↑(Int.toNat (i:Int)+List.length (List.take (List.length (bd.map Li.av)-Int.toNat (↑(i+1):Int)) (List.drop (0+Int.toNat (↑(i+1):Int)) (bd.map Li.av)))):Int)∧(↑(Int.toNat (i:Int)+List.length (List.take (List.length (bd.map Li.av)-Int.toNat (↑(i+1):Int)) (List.drop (0+Int.toNat (↑(i+1):Int)) (bd.map Li.av)))):Int)≤(↑(bd.map Li.av).length:Int)∧0+Int.toNat (↑(bd.map Li.av).length:Int)≤List.length (List.take (Int.toNat (i:Int)) (bd.map Li.av)++List.take (List.length (bd.map Li.av)-Int.toNat (↑(i+1):Int)) (List.drop (0+Int.toNat (↑(i+1):Int)) (bd.map Li.av))++List.drop (Int.toNat (i:Int)+List.length (List.take (List.length (bd.map Li.av)-Int.toNat (↑(i+1):Int)) (List.drop (0+Int.toNat (↑(i+1):Int)) (bd.map Li.av)))) (bd.map Li.av)) from by simp;omega) (show 0+Int.toNat (↑(Int.toNat (i:Int)+List.length (List.take (List.length (bd.map Li.av)-Int.toNat (↑(i+1):Int)) (List.drop (0+Int.toNat (↑(i+1):Int)) (bd.map Li.av)))):Int)+(Int.toNat (↑(bd.map Li.av).length:Int)-Int.toNat (↑(Int.toNat (i:Int)+List.length (List.take (List.length (bd.map Li.av)-Int.toNat (↑(i+1):Int)) (List.drop (0+Int.toNat (↑(i+1):Int)) (bd.map Li.av)))):Int))≤List.length (List.take (Int.toNat (i:Int)) (bd.map Li.av)++List.take (List.length (bd.map Li.av)-Int.toNat (↑(i+1):Int)) (List.drop (0+Int.toNat (↑(i+1):Int)) (bd.map Li.av))++List.drop (Int.toNat (i:Int)+List.length (List.take (List.length (bd.map Li.av)-Int.toNat (↑(i+1):Int)) (List.drop (0+Int.toNat (↑(i+1):Int)) (bd.map Li.av)))) (bd.map Li.av)) from by simp;omega) (show noIdsL (List.take (0+Int.toNat (↑(Int.toNat (i:Int)+List.length (List.take (List.length (bd.map Li.av)-Int.toNat (↑(i+1):Int)) (List.drop (0+Int.toNat (↑(i+1):Int)) (bd.map Li.av)))):Int)) (List.take (Int.toNat (i:Int)) (bd.map Li.av)++List.take (List.length (bd.map Li.av)-Int.toNat (↑(i+1):Int)) (List.drop (0+Int.toNat (↑(i+1):Int)) (bd.map Li.av))++List.drop (Int.toNat (i:Int)+List.length (List.take (List.length (bd.map Li.av)-Int.toNat (↑(i+1):Int)) (List.drop (0+Int.toNat (↑(i+1):Int)) (bd.map Li.av)))) (bd.map Li.av))++List.replicate (Int.toNat (↑(bd.map Li.av).length:Int)-Int.toNat (↑(Int.toNat (i:Int)+List.length (List.take (List.length (bd.map Li.av)-Int.toNat (↑(i+1):Int)) (List.drop (0+Int.toNat (↑(i+1):Int)) (bd.map Li.av)))):Int)) (AV.agg [AV.int .i8 0,AV.str (ByteArray.mk #[]),AV.nils,AV.int .i8 0,AV.int .i8 0,AV.str (ByteArray.mk #[]),AV.int .i8 0,AV.int .i64 0,AV.str (ByteArray.mk #[]),AV.nils,AV.int .i8 0,AV.str (ByteArray.mk #[]),AV.int .i8 0,AV.int .i64 0,AV.str (ByteArray.mk #[]),AV.nils])++List.drop (0+Int.toNat (↑(Int.toNat (i:Int)+List.length (List.take (List.length (bd.map Li.av)-Int.toNat (↑(i+1):Int)) (List.drop (0+Int.toNat (↑(i+1):Int)) (bd.map Li.av)))):Int)+(Int.toNat (↑(bd.map Li.av).length:Int)-Int.toNat (↑(Int.toNat (i:Int)+List.length (List.take (List.length (bd.map Li.av)-Int.toNat (↑(i+1):Int)) (List.drop (0+Int.toNat (↑(i+1):Int)) (bd.map Li.av)))):Int))) (List.take (Int.toNat (i:Int)) (bd.map Li.av)++List.take (List.length (bd.map Li.av)-Int.toNat (↑(i+1):Int)) (List.drop (0+Int.toNat (↑(i+1):Int)) (bd.map Li.av))++List.drop (Int.toNat (i:Int)+List.length (List.take (List.length (bd.map Li.av)-Int.toNat (↑(i+1):Int)) (List.drop (0+Int.toNat (↑(i+1):Int)) (bd.map Li.av)))) (bd.map Li.av)))=true from by repeat' (first|exact noIdsL_lis _|apply noIdsL_andI|apply noIdsL_take|apply noIdsL_drop|apply noIdsL_repI|exact rfl)))⟩
theorem b85b (hl:(bd.map Li.av).length=bd.length) (hsm:bd.length≤1000) (hi:i+1=bd.length) (hc:0+Int.toNat ((i+1:Nat):Int)+((bd.map Li.av).length-Int.toNat ((i+1:Nat):Int))≤(bd.map Li.av).length∧(List.take ((bd.map Li.av).length-Int.toNat ((i+1:Nat):Int)) (List.drop (0+Int.toNat ((i+1:Nat):Int)) (bd.map Li.av)))=[]):En 33 (bodyOf Tryz.f85) (Z2a6 bd i) (fun e t=>e= .ret∧∃(m:Nat) (es:List AV),m=bd.length-1∧es.take ((bd.map Li.av).length-1)=(bd.map Li.av).eraseIdx i∧t=⟨[Z2a3 m],[Z2a4 es]⟩):=by
 exact ⟨Out.ret,St.mk [(6,.row 100000 0 (Int.toNat (i:Int)))] [(100000,.row 16 (List.take (0+Int.toNat (↑(Int.toNat (i:Int)):Int)) (bd.map Li.av)++List.replicate (Int.toNat (↑(bd.map Li.av).length:Int)-Int.toNat (↑(Int.toNat (i:Int)):Int)) (.agg [.int .i8 0,.str (ByteArray.mk #[]),.nils,.int .i8 0,.int .i8 0,.str (ByteArray.mk #[]),.int .i8 0,.int .i64 0,.str (ByteArray.mk #[]),.nils,.int .i8 0,.str (ByteArray.mk #[]),.int .i8 0,.int .i64 0,.str (ByteArray.mk #[]),.nils])++List.drop (0+Int.toNat (↑(Int.toNat (i:Int)):Int)+(Int.toNat (↑(bd.map Li.av).length:Int)-Int.toNat (↑(Int.toNat (i:Int)):Int))) (bd.map Li.av)))],⟨rfl,_,_,by (simp;omega),by (refine del_last _ i _ _ _ _ ?_ ?_<;>(simp;try omega)),rfl⟩,gA 60000 [.is false,.is false] [6] [K1 100000] (by kernel_rfl) (aC8 (show 0≤(i:Int)∧(i:Int)≤(↑(i+1):Int)∧(↑(i+1):Int)≤(↑(bd.map Li.av).length:Int)∧0+Int.toNat (↑(bd.map Li.av).length:Int)≤List.length (bd.map Li.av) from by omega) (show decide ((i:Int)=(↑(i+1):Int))=false from decide_eq_false (by omega)) (show 0≤(i:Int)∧0+Int.toNat (i:Int)≤List.length (bd.map Li.av) from by omega) (show 0≤(↑(i+1):Int)∧(↑(i+1):Int)≤(↑(bd.map Li.av).length:Int) from by omega) hc (show 0≤(↑(Int.toNat (i:Int)):Int)∧(↑(Int.toNat (i:Int)):Int)≤(↑(bd.map Li.av).length:Int)∧0+Int.toNat (↑(bd.map Li.av).length:Int)≤List.length (bd.map Li.av) from by omega) (show 0+Int.toNat (↑(Int.toNat (i:Int)):Int)+(Int.toNat (↑(bd.map Li.av).length:Int)-Int.toNat (↑(Int.toNat (i:Int)):Int))≤List.length (bd.map Li.av) from by omega) (show noIdsL (List.take (0+Int.toNat (↑(Int.toNat (i:Int)):Int)) (bd.map Li.av)++List.replicate (Int.toNat (↑(bd.map Li.av).length:Int)-Int.toNat (↑(Int.toNat (i:Int)):Int)) (AV.agg [AV.int .i8 0,AV.str (ByteArray.mk #[]),AV.nils,AV.int .i8 0,AV.int .i8 0,AV.str (ByteArray.mk #[]),AV.int .i8 0,AV.int .i64 0,AV.str (ByteArray.mk #[]),AV.nils,AV.int .i8 0,AV.str (ByteArray.mk #[]),AV.int .i8 0,AV.int .i64 0,AV.str (ByteArray.mk #[]),AV.nils])++List.drop (0+Int.toNat (↑(Int.toNat (i:Int)):Int)+(Int.toNat (↑(bd.map Li.av).length:Int)-Int.toNat (↑(Int.toNat (i:Int)):Int))) (bd.map Li.av))=true from by simp))⟩
theorem mapErase {α β:Type} (f:α→β):∀(l:List α) (i:Nat),(l.map f).eraseIdx i=(l.eraseIdx i).map f
 |[],_=>rfl
 |x::r,0=>rfl
 |x::r,i+1=>by simp [mapErase f r i]
theorem ok_lis (l:List Li):∀e,e∈l.map Li.av→okE 16 e:=fun e he=>by
 obtain ⟨x,_,rfl⟩:=List.mem_map.1 he
 simp
abbrev Z2a5:Nat×Ob:=(100000,.row 16 ((bd.eraseIdx i).map Li.av))
theorem k85 (hi:i<bd.length) (hsm:bd.length≤1000):
  Sp 85 [.row 45007 0 (bd.map Li.av).length,.int .i64 (i:Int),.int .i64 ((i+1:Nat):Int)] [(45007,.row 16 (bd.map Li.av))] (.row 45007 0 ((bd.eraseIdx i).map Li.av).length) [(45007,.row 16 ((bd.eraseIdx i).map Li.av))]:=by
 have hl:(bd.map Li.av).length=bd.length:=List.length_map ..
 have ob:∀id o,(id,o)∈[Z2a2 bd]→renOb (idT [Z2a2 bd]) o=o:=by
  intro id o hm
  rw [List.mem_singleton] at hm
  injection hm with h1 h2
  subst h1;subst h2
  simp only [renOb,renL_noIds _ _ (noIdsL_lis bd)]
 have he:(bd.map Li.av).eraseIdx i=(bd.eraseIdx i).map Li.av:=mapErase Li.av bd i
 have hel:((bd.eraseIdx i).map Li.av).length=bd.length-1:=by rw [List.length_map,List.length_eraseIdx_of_lt hi]
 have main:∀(m:Nat) (es:List AV),m=bd.length-1→es.take ((bd.map Li.av).length-1)=(bd.map Li.av).eraseIdx i→Rz 33 (bodyOf Tryz.f85) (Z2a6 bd i) .ret ⟨[Z2a3 m],[Z2a4 es]⟩→
   Sp 85 [.row 100000 0 (bd.map Li.av).length,.int .i64 (i:Int),.int .i64 ((i+1:Nat):Int)] [Z2a2 bd] (.row 100000 0 ((bd.eraseIdx i).map Li.av).length) [Z2a5 bd i]:=by
  intro m es h1 h2 h
  have h3:=h.post (le_cut (n:=33) (st:=⟨[Z2a3 m],[Z2a4 es]⟩) 100000 ((bd.map Li.av).length-1) rfl)
  have e:putL [Z2a4 es] 100000 (.row 16 (es.take ((bd.map Li.av).length-1)))=[Z2a5 bd i]:=by
   rw [h2,he];rfl
  simp only [e] at h3
  subst h1
  rw [hel]
  exact sG Tryz.f85 ob h3 (.inr rfl)
 have fin:Sp 85 [.row 100000 0 (bd.map Li.av).length,.int .i64 (i:Int),.int .i64 ((i+1:Nat):Int)] [Z2a2 bd] (.row 100000 0 ((bd.eraseIdx i).map Li.av).length) [Z2a5 bd i]:=by
  by_cases hlt:i+1<bd.length
  ·obtain ⟨e,t,⟨rfl,m,es,h1,h2,rfl⟩,h⟩:=b85a bd i hl hsm hlt ⟨by simp;omega,rfl,by simp;omega,fun e he=>ok_lis bd e (List.mem_of_mem_drop (List.mem_of_mem_take he)),by
    intro h0
    have:=congrArg List.length h0
    simp at this
    omega⟩
   exact main m es h1 h2 h
  ·obtain ⟨e,t,⟨rfl,m,es,h1,h2,rfl⟩,h⟩:=b85b bd i hl hsm (by omega) ⟨by simp;omega,by
    apply List.eq_nil_of_length_eq_zero
    simp;omega⟩
   exact main m es h1 h2 h
 have h2:=fin.renum [(100000,45007,.row 16 (bd.map Li.av))] [(100000,45007)] (args':=[.row 45007 0 (bd.map Li.av).length,.int .i64 (i:Int),.int .i64 ((i+1:Nat):Int)]) rfl (by simp only [List.map_cons,List.map_nil,renOb,renL_noIds _ _ (noIdsL_lis bd)]) rfl
 simp only [List.map_cons,List.map_nil,renOb,renL_noIds _ _ (noIdsL_lis (bd.eraseIdx i))] at h2
 exact h2
end
section
variable (rk rv:List AV) (out:List Ru)
abbrev Ad:=ByteArray×ByteArray
def adA (x:Ad):AV:= .agg [.str x.1,.str x.2]
def ixs:Nat→List AV
 |0=>[]
 |n+1=>ixs n++[.int .i64 (n:Int)]
theorem ixs_len:∀n,(ixs n).length=n
 |0=>rfl
 |n+1=>by rw [ixs,List.length_append,ixs_len n];rfl
theorem ixs_get:∀(n j:Nat),j<n→(ixs n)[j]? =some (.int .i64 (j:Int))
 |0,j,h=>absurd h (Nat.not_lt_zero _)
 |n+1,j,h=>by
  rw [ixs]
  by_cases e:j<n
  ·rw [List.getElem?_append_left (by rw [ixs_len];exact e)];exact ixs_get n j e
  ·have:j=n:=by omega
   subst this
   rw [List.getElem?_append_right (by rw [ixs_len];exact Nat.le_refl _),ixs_len,Nat.sub_self];rfl
@[simp] theorem noIdsL_ixs:∀n,noIdsL (ixs n)=true
  |0=>rfl
  |n+1=>by rw [ixs,noIdsL_app,noIdsL_ixs n];rfl
theorem noIds_ad (x:Ad):noIds (adA x)=true:=rfl
@[simp] theorem noIdsL_ads (l:List Ad):noIdsL (l.map adA)=true:=noIdsL_of adA noIds_ad l
@[simp] theorem okE_ad (x:Ad):okE 2 (adA x):=⟨rfl,by simp [adA,AV.cells,solid]⟩
theorem eq27 (p s q r:ByteArray):eqTy Tryz.prog 20 27 [.str p,.str s] [.str q,.str r]=some (decide (p=q)&&(decide (s=r)&&true),[],[]):=by kernel_rfl
theorem findS_none {a:Ad}:∀{L:List Ad} {i:Nat},a∉L→findS Tryz.prog 27 [.str a.1,.str a.2] (L.map adA) i=some none
 |[],i,_=>rfl
 |x::r,i,h=>by
  have h1:(decide (a.1=x.1)&&(decide (a.2=x.2)&&true))=false:=by
   rw [Bool.and_true,←Bool.decide_and,decide_eq_false_iff_not]
   rintro ⟨e1,e2⟩
   exact h (by rw [show a=x from Prod.ext e1 e2];simp)
  simp only [List.map_cons,adA,findS,eq27,h1]
  exact findS_none fun h2=>h (List.mem_cons_of_mem _ h2)
theorem findS_some {a:Ad}:∀{L:List Ad} {i:Nat},a∈L→∃j,findS Tryz.prog 27 [.str a.1,.str a.2] (L.map adA) i=some (some (i+j))∧j<L.length
 |x::r,i,h=>by
  by_cases e:a=x
  ·subst e
   refine ⟨0,?_,by simp⟩
   simp only [List.map_cons,adA,findS,eq27,decide_true,Bool.and_true,Nat.add_zero]
  ·have h1:(decide (a.1=x.1)&&(decide (a.2=x.2)&&true))=false:=by
    rw [Bool.and_true,←Bool.decide_and,decide_eq_false_iff_not]
    rintro ⟨e1,e2⟩
    exact e (Prod.ext e1 e2)
   obtain ⟨j,h2,h3⟩:=findS_some (L:=r) (i:=i+1) ((List.mem_cons.1 h).resolve_left e)
   refine ⟨j+1,?_,by simp;omega⟩
   simp only [List.map_cons,adA,findS,eq27,h1]
   rw [show i+(j+1)=i+1+j from by omega]
   exact h2
theorem k14 (q s:ByteArray) (hq:q.size<1000000000000000000) (hs:s.size<1000000000000000000):Sp 14 [.agg [.str q,.str s]] [] (.str (nameT q s)) []:=na_spec q s hq hs
theorem zshd3q (L:List Ad):noIdsL (L.map adA)=true∧noIdsL (ixs L.length)=true:=by simp
abbrev Z2b0:Nat×AV:=(0,.elt 100000 0 0)
abbrev Z2b1 (L:List Ad):Nat×Ob:=(100000,.var [.own 2 (L.map adA),.map 100001,.tmap rk rv,.own 3 (out.map Ru.av)])
abbrev Z2b2 (L:List Ad):Nat×Ob:=(100001,.map (L.map adA) (ixs L.length))
abbrev Z2b3 (a:Ad):Nat×AV:=(3,.tptr [.str a.1,.str a.2])
abbrev Z2b4:Nat×AV:=(4,.str ⟨#[]⟩)
abbrev Z2b9 (a:Ad) (L:List Ad):St:=⟨[Z2b0,Z2b3 a,Z2b4],[Z2b1 rk rv out L,Z2b2 L]⟩
theorem w46a (L:List Ad) (a:Ad) (rk rv:List AV) (out:List Ru):EN 49 (partC 0 (bodyOf Tryz.f46)) ⟨[Z2b0,(1,.agg [.str a.1,.str a.2])],[Z2b1 rk rv out L,Z2b2 L]⟩ (Z2b9 rk rv out a L):=by
 exact gE ⟨rfl,rfl⟩ 0 [] [0,3,4] [(3,.freeze),K0 100000,K1 100001] (aC2 rT (zshd3q L))
abbrev Z2b5:Nat×Ob:=(100000,.var [.own 2 [],.nilmap,.tmap rk rv,.own 3 (out.map Ru.av)])
theorem w46z (a:Ad) (rk rv:List AV) (out:List Ru):EN 49 (partC 0 (bodyOf Tryz.f46)) ⟨[Z2b0,(1,.agg [.str a.1,.str a.2])],[Z2b5 rk rv out]⟩ ⟨[Z2b0,Z2b3 a,Z2b4],[Z2b5 rk rv out]⟩:=by
 exact gE ⟨rfl,rfl⟩ 0 [] [0,3,4] [(3,.freeze),K0 100000] (aC1 rT)
theorem w46y (a:Ad) (rk rv:List AV) (out:List Ru):EN 49 (partC 1 (bodyOf Tryz.f46)) ⟨[Z2b0,Z2b3 a,Z2b4],[Z2b5 rk rv out]⟩ ⟨[Z2b0,Z2b3 a,Z2b4],[(100000,.var [.own 2 [],.map 100001,.tmap rk rv,.own 3 (out.map Ru.av)]),(100001,.map [] [])]⟩:=by
 exact gE ⟨rfl,rfl⟩ 99988 [.is true] [0,3,4] [K0 100000,K1 100001] (aC2 rT rTT)
theorem w46b (L:List Ad) (a:Ad) (rk rv:List AV) (out:List Ru):EN 49 (partC 1 (bodyOf Tryz.f46)) (Z2b9 rk rv out a L) (Z2b9 rk rv out a L):=by
 exact gE ⟨rfl,rfl⟩ 0 [.is false] [0,3,4] [K0 100000,K1 100001] (aC2 rF (zshd3q L))
abbrev Z2b6 (a:Ad):Nat×AV:=(4,.str (nameT a.1 a.2))
theorem w46o (L:List Ad) (a:Ad) (rk rv:List AV) (out:List Ru) (v:Int) (hp:a.1.size<1000000000000000000) (hs:a.2.size<1000000000000000000) (hf:∃j,findS Tryz.prog 27 [.str a.1,.str a.2] (L.map adA) 0=some (some j)∧(ixs L.length)[j]? =some (.int .i64 v)):En 49 (restC 2 (bodyOf Tryz.f46)) (Z2b9 rk rv out a L) (fun e t=>e= .ret∧t=⟨[Z2b6 a],[Z2b1 rk rv out L,Z2b2 L]⟩):=by
 have hs0:=k14 a.1 a.2 (by assumption) (by assumption)
 exact gE ⟨rfl,rfl⟩ 0 [.elt (.int .i64 v),.call (.str (ByteArray.mk #[113,95]++a.2++ByteArray.mk #[95]++a.1)) [] []] [4] [K0 100000,K1 100001] (aC3 hf hs0 (zshd3q L))
theorem r46n (a:Ad) (rk rv:List AV) (out:List Ru):EN 49 (regOf Tryz.f46 37) ⟨[(0,.elt 100000 0 0),(3,.tptr [.str a.1,.str a.2])],[(100000,.var [.nils,.map 100001,.tmap rk rv,.own 3 (out.map Ru.av)]),(100001,.map [.agg [.str a.1,.str a.2]] [.int .i64 0])]⟩ ⟨[(0,.elt 100000 0 0),(3,.tptr [.str a.1,.str a.2])],[(100000,.var [.row 60044 0 1,.map 100001,.tmap rk rv,.own 3 (out.map Ru.av)]),(100001,.map [.agg [.str a.1,.str a.2]] [.int .i64 0]),(60044,.row 2 [.agg [.str a.1,.str a.2]])]⟩:=by
 exact gE ⟨rfl,rfl⟩ 60000 [.is true] [0,3] [K0 100000,K1 100001,K1 60044] (aC3 (show 1≤List.length [AV.agg [AV.str a.1,AV.str a.2]]∧[AV.agg [AV.str a.1,AV.str a.2]]≠[]∧(∀(e:AV),e∈[AV.agg [AV.str a.1,AV.str a.2]]→okE 2 e)∧(∀(e:AV),e∈[]→okE 2 e)∧(↑(0+List.length [AV.agg [AV.str a.1,AV.str a.2]]):Int)*32≤140737488355328∧0+List.length [AV.agg [AV.str a.1,AV.str a.2]]≤9223372036854775807 from by simp) rTT rT)
theorem zs3k7e (L:List Ad) (a:Ad):noIdsL (List.map adA L++[AV.agg [AV.str a.1,AV.str a.2]])=true∧noIdsL (ixs L.length++[AV.int .i64 (↑(L.map adA).length:Int)])=true:=by simp
theorem r46c (L:List Ad) (a:Ad) (rk rv:List AV) (out:List Ru) (hok:∀e,e∈L.map adA→okE 2 e) (hl:L.length<1000000):EN 49 (regOf Tryz.f46 37) ⟨[(0,.elt 100000 0 0),(3,.tptr [.str a.1,.str a.2])],[(100000,.var [.row 60500 0 (L.map adA).length,.map 100001,.tmap rk rv,.own 3 (out.map Ru.av)]),(100001,.map (L.map adA++[.agg [.str a.1,.str a.2]]) (ixs L.length++[.int .i64 ((L.map adA).length:Nat)])),(60500,.row 2 (L.map adA))]⟩ ⟨[(0,.elt 100000 0 0),(3,.tptr [.str a.1,.str a.2])],[(100000,.var [.row 60044 0 ((L.map adA).length+1),.map 100001,.tmap rk rv,.own 3 (out.map Ru.av)]),(100001,.map (L.map adA++[.agg [.str a.1,.str a.2]]) (ixs L.length++[.int .i64 ((L.map adA).length:Nat)])),(60044,.row 2 (L.map adA++[.agg [.str a.1,.str a.2]]))]⟩:=by
 exact gE ⟨rfl,rfl⟩ 60000 [.is true] [0,3] [K0 100000,K1 100001,K1 60044] (aC3 (show (1:Nat)≤List.length [AV.agg [AV.str a.1,AV.str a.2]]∧(0:Nat)=(0:Nat)∧List.length (L.map adA)=List.length (L.map adA)∧(∀(e:AV),e∈[AV.agg [AV.str a.1,AV.str a.2]]→okE (2:Nat) e)∧(∀(e:AV),e∈List.map adA L→okE (2:Nat) e)∧(↑(List.length (L.map adA)+List.length [AV.agg [AV.str a.1,AV.str a.2]]):Int)*(32:Int)≤(140737488355328:Int)∧List.length (L.map adA)+List.length [AV.agg [AV.str a.1,AV.str a.2]]≤(9223372036854775807:Nat) from by refine ⟨by simp,rfl,rfl,by simp,by assumption,?_,?_⟩<;>(simp;omega)) (zs3k7e L a) (show noIdsL (List.map adA L++[AV.agg [AV.str a.1,AV.str a.2]])=true from by simp))
abbrev Z2b7 (L:List Ad) (a:Ad):Nat×Ob:=(100001,.map (L.map adA++[.agg [.str a.1,.str a.2]]) (ixs L.length++[.int .i64 ((L.map adA).length:Nat)]))
abbrev Z2b8 (L:List Ad) (a:Ad):Nat×Ob:=(100000,.var [.own 2 ((L++[a]).map adA),.map 100001,.tmap rk rv,.own 3 (out.map Ru.av)])
theorem w46n (L:List Ad) (a:Ad) (rk rv:List AV) (out:List Ru) (hp:a.1.size<1000000000000000000) (hs:a.2.size<1000000000000000000) (hf:findS Tryz.prog 27 [.str a.1,.str a.2] (L.map adA) 0=some none) (pr46_37p:Rz 49 (regOf Tryz.f46 37) ⟨[Z2b0,Z2b3 a],[Z2b1 rk rv out L,Z2b7 L a]⟩ .normal ⟨[Z2b0,Z2b3 a],[Z2b8 rk rv out L a,Z2b7 L a]⟩):En 49 (restC 2 (bodyOf Tryz.f46)) (Z2b9 rk rv out a L) (fun e t=>e= .ret∧t=⟨[Z2b6 a],[Z2b8 rk rv out L a,Z2b7 L a]⟩):=by
 have hl0:=pr46_37p
 have hs1:=k14 a.1 a.2 (by assumption) (by assumption)
 exact gE ⟨rfl,rfl⟩ 0 [.is false,.is false,.cut [0,3] [K0 100000,K1 100001],.tell 37 .normal [Z2b0,(3,.tptr [.str (Prod.fst a),.str (Prod.snd a)])] [(100000,.var [.own 2 (List.map adA (L++[a])),.map 100001,.tmap rk rv,.own 3 (out.map Ru.av)]),(100001,.map (L.map adA++[.agg [.str (Prod.fst a),.str (Prod.snd a)]]) (ixs L.length++[.int .i64 (↑(L.map adA).length:Int)]))],.call (.str (ByteArray.mk #[113,95]++a.2++ByteArray.mk #[95]++a.1)) [] []] [4] [K0 100000,K1 100001] (aC6 hf hf (zs3k7e L a) hl0 hs1 (zs3k7e L a))
def wp (L:List Ad) (rk rv:List AV) (out:List Ru):List (Nat×Ob):=[(100000,.var [.own 2 (L.map adA),.map 100001,.tmap rk rv,.own 3 (out.map Ru.av)]),(100001,.map (L.map adA) (ixs L.length))]
open Classical in
noncomputable def meetL (L:List Ad) (a:Ad):List Ad:=if a∈L then L else L++[a]
theorem ok_ads (L:List Ad):∀e,e∈L.map adA→okE 2 e:=fun e he=>by
 obtain ⟨x,_,rfl⟩:=List.mem_map.1 he
 exact okE_ad x
theorem obs_wp (L:List Ad) (rk rv:List AV) (out:List Ru):∀id o,(id,o)∈wp L rk rv out→renOb (idT (wp L rk rv out)) o=o:=by
 intro id o hm
 simp only [wp,List.mem_cons,Prod.mk.injEq,List.not_mem_nil,or_false] at hm
 rcases hm with ⟨rfl,rfl⟩|⟨rfl,rfl⟩
 ·rfl
 ·simp only [renOb,renL_noIds _ _ (noIdsL_ads L),renL_noIds _ _ (noIdsL_ixs L.length)]
theorem pr46 (L:List Ad) (a:Ad) (rk rv:List AV) (out:List Ru) (hl:L.length<1000000):Rz 49 (regOf Tryz.f46 37) ⟨[(0,.elt 100000 0 0),(3,.tptr [.str a.1,.str a.2])],[(100000,.var [.own 2 (L.map adA),.map 100001,.tmap rk rv,.own 3 (out.map Ru.av)]),(100001,.map (L.map adA++[.agg [.str a.1,.str a.2]]) (ixs L.length++[.int .i64 ((L.map adA).length:Nat)]))]⟩ .normal ⟨[(0,.elt 100000 0 0),(3,.tptr [.str a.1,.str a.2])],[(100000,.var [.own 2 ((L++[a]).map adA),.map 100001,.tmap rk rv,.own 3 (out.map Ru.av)]),(100001,.map (L.map adA++[.agg [.str a.1,.str a.2]]) (ixs L.length++[.int .i64 ((L.map adA).length:Nat)]))]⟩:=by
 have close:∀(ks vs es:List AV),noIdsL ks=true→noIdsL vs=true→noIdsL es=true→0<es.length→∀{st:St},Rz 49 (regOf Tryz.f46 37) st .normal ⟨[(0,.elt 100000 0 0),(3,.tptr [.str a.1,.str a.2])],[(100000,.var [.row 60044 0 es.length,.map 100001,.tmap rk rv,.own 3 (out.map Ru.av)]),(100001,.map ks vs),(60044,.row 2 es)]⟩→Rz 49 (regOf Tryz.f46 37) st .normal ⟨[(0,.elt 100000 0 0),(3,.tptr [.str a.1,.str a.2])],[(100000,.var [.own 2 es,.map 100001,.tmap rk rv,.own 3 (out.map Ru.av)]),(100001,.map ks vs)]⟩:=by
  intro ks vs es h1 h2 h3 h4 st h
  have ht:es.take es.length=es:=List.take_length
  have b:=h.post (le_close (n:=49) (st:=⟨[(0,.elt 100000 0 0),(3,.tptr [.str a.1,.str a.2])],[(100000,.var [.row 60044 0 es.length,.map 100001,.tmap rk rv,.own 3 (out.map Ru.av)]),(100001,.map ks vs),(60044,.row 2 es)]⟩) 100000 0 60044 (o:= .var [.row 60044 0 es.length,.map 100001,.tmap rk rv,.own 3 (out.map Ru.av)]) rfl rfl rfl h4 (Nat.le_refl _) (by rw [ht];exact h3) (by simp [mid]))
  rw [ht] at b
  exact b.keepR [0,3] [K0 100000,K1 100001] (cs:=[noIdsL ks=true∧noIdsL vs=true]) rfl ⟨⟨h1,h2⟩,trivial⟩
 by_cases hn:L=[]
 ·subst hn
  obtain ⟨e,t,⟨rfl,rfl⟩,h⟩:=r46n a rk rv out
  have h2:=close _ _ [.agg [.str a.1,.str a.2]] rfl rfl rfl (by simp) h
  exact h2.pre (le_openNil (st:=⟨[(0,.elt 100000 0 0),(3,.tptr [.str a.1,.str a.2])],[(100000,.var [.own 2 [],.map 100001,.tmap rk rv,.own 3 (out.map Ru.av)]),(100001,.map [.agg [.str a.1,.str a.2]] [.int .i64 0])]⟩) 100000 0 (sz:=2) rfl rfl)
 ·obtain ⟨e,t,⟨rfl,rfl⟩,h⟩:=r46c L a rk rv out (ok_ads L) hl
  have e1:(L.map adA).length+1=(L.map adA++[AV.agg [.str a.1,.str a.2]]).length:=by simp
  rw [e1] at h
  have h2:=close _ _ _ (by simp) (by simp) (by simp) (by simp) h
  have h3:=h2.pre (le_open (st:=⟨[(0,.elt 100000 0 0),(3,.tptr [.str a.1,.str a.2])],[(100000,.var [.own 2 (L.map adA),.map 100001,.tmap rk rv,.own 3 (out.map Ru.av)]),(100001,.map (L.map adA++[.agg [.str a.1,.str a.2]]) (ixs L.length++[.int .i64 ((L.map adA).length:Nat)]))]⟩) 100000 0 60500 (sz:=2) rfl rfl (by simpa using hn) rfl (by simp [mid]))
  rw [show (L++[a]).map adA=L.map adA++[AV.agg [.str a.1,.str a.2]] from by rw [List.map_append];rfl]
  exact h3
theorem wp_app (L:List Ad) (a:Ad) (rk rv:List AV) (out:List Ru):wp (L++[a]) rk rv out=[(100000,.var [.own 2 ((L++[a]).map adA),.map 100001,.tmap rk rv,.own 3 (out.map Ru.av)]),(100001,.map (L.map adA++[.agg [.str a.1,.str a.2]]) (ixs L.length++[.int .i64 ((L.map adA).length:Nat)]))]:=by
 have e1:(L++[a]).map adA=L.map adA++[AV.agg [.str a.1,.str a.2]]:=by rw [List.map_append];rfl
 have e2:ixs (L++[a]).length=ixs L.length++[.int .i64 ((L.map adA).length:Nat)]:=by rw [List.length_append,List.length_map];rfl
 unfold wp
 rw [e2,e1]
theorem t46 (L:List Ad) (a:Ad) (rk rv:List AV) (out:List Ru) (hl:L.length<1000000) (hp:a.1.size<1000000000000000000) (hs:a.2.size<1000000000000000000):Rz 49 (restC 2 (bodyOf Tryz.f46)) ⟨[Z2b0,Z2b3 a,Z2b4],wp L rk rv out⟩ .ret ⟨[Z2b6 a],wp (meetL L a) rk rv out⟩:=by
 unfold meetL
 by_cases hm:a∈L
 ·rw [if_pos hm]
  obtain ⟨j,h1,h2⟩:=findS_some (i:=0) hm
  rw [Nat.zero_add] at h1
  obtain ⟨e,t,⟨rfl,rfl⟩,h⟩:=w46o L a rk rv out (j:Int) hp hs ⟨j,h1,ixs_get _ _ h2⟩
  exact h
 ·rw [if_neg hm,wp_app]
  obtain ⟨e,t,⟨rfl,rfl⟩,h⟩:=w46n L a rk rv out hp hs (findS_none hm) (pr46 L a rk rv out hl)
  exact h
theorem k46 (L:List Ad) (a:Ad) (rk rv:List AV) (out:List Ru) (hl:L.length<1000000) (hp:a.1.size<1000000000000000000) (hs:a.2.size<1000000000000000000):Sp 46 [.elt 100000 0 0,.agg [.str a.1,.str a.2]] (wp L rk rv out) (.str (nameT a.1 a.2)) (wp (meetL L a) rk rv out):=by
 obtain ⟨e,t,⟨rfl,rfl⟩,r0⟩:=w46a L a rk rv out
 obtain ⟨e,t,⟨rfl,rfl⟩,r1⟩:=w46b L a rk rv out
 exact sG Tryz.f46 (obs_wp L rk rv out) (Runs.nth 0 (by kernel_rfl) r0 (Runs.nth 1 (by kernel_rfl) r1 (t46 L a rk rv out hl hp hs))) (.inr rfl)
theorem k46z (a:Ad) (rk rv:List AV) (out:List Ru) (hp:a.1.size<1000000000000000000) (hs:a.2.size<1000000000000000000):Sp 46 [.elt 100000 0 0,.agg [.str a.1,.str a.2]] [Z2b5 rk rv out] (.str (nameT a.1 a.2)) (wp [a] rk rv out):=by
 obtain ⟨e,t,⟨rfl,rfl⟩,r0⟩:=w46z a rk rv out
 obtain ⟨e,t,⟨rfl,rfl⟩,r1⟩:=w46y a rk rv out
 have r2:=t46 [] a rk rv out (by simp) hp hs
 have e:meetL [] a=[a]:=by simp [meetL]
 rw [e] at r2
 refine sG Tryz.f46 ?_ (Runs.nth 0 (by kernel_rfl) r0 (Runs.nth 1 (by kernel_rfl) r1 r2)) (.inr rfl)
 intro id o hm
 rw [List.mem_singleton] at hm
 injection hm with h1 h2
 subst h1;subst h2;rfl
end
section
variable (L:List Ad) (a:Ad) (rk rv:List AV) (out:List Ru) (p:ByteArray) (hd:List Ar) (bd:List Li) (ks:List ByteArray)
theorem all2 {a b:Prop} (ha:a) (hb:b):∀p,p∈[a,b]→p:=fun p hp=>by
 simp only [List.mem_cons,List.not_mem_nil,or_false] at hp
 rcases hp with rfl|rfl
 ·exact ha
 ·exact hb
theorem all1 {a:Prop} (ha:a):∀p,p∈[a]→p:=fun p hp=>by rw [List.mem_singleton.1 hp];exact ha
theorem bare1 {i:Nat} {o:Ob} (h:∀p,p∈bareOb o→p):∀x,x∈[(i,o)]→∀p,p∈bareOb x.2→p:=fun x hx=>by rw [List.mem_singleton.1 hx];exact h
theorem bare2 {i j:Nat} {o q:Ob} (h:∀p,p∈bareOb o→p) (k:∀p,p∈bareOb q→p):∀x,x∈[(i,o),(j,q)]→∀p,p∈bareOb x.2→p:=fun x hx=>by
 simp only [List.mem_cons,List.not_mem_nil,or_false] at hx
 rcases hx with rfl|rfl
 ·exact h
 ·exact k
theorem bareS (l:List ByteArray):∀p,p∈bareOb (.row 1 (l.map AV.str))→p:=all1 (noIdsL_strs l)
theorem bareL (l:List Li):∀p,p∈bareOb (.row 16 (l.map Li.av))→p:=all1 (noIdsL_lis l)
theorem nil2 {P:Program} {f:FuncId} {x:AV} {r:AV} (h:Spec P f [x,.seq [] false] [] r []):Spec P f [x,.nils] [] r []:=h.wkA rfl fun i a b h1 h2=>by
 match i,h1,h2 with
 |0,h1,h2=>simp at h1 h2;subst h1;subst h2;exact .refl _
 |1,h1,h2=>simp at h1 h2;subst h1;subst h2;exact .nils
 |n+2,h1,h2=>simp at h1
theorem nil1 {P:Program} {f:FuncId} {x:AV} {r:AV} (h:Spec P f [.seq [] false,x] [] r []):Spec P f [.nils,x] [] r []:=h.wkA rfl fun i a b h1 h2=>by
 match i,h1,h2 with
 |0,h1,h2=>simp at h1 h2;subst h1;subst h2;exact .nils
 |1,h1,h2=>simp at h1 h2;subst h1;subst h2;exact .refl _
 |n+2,h1,h2=>simp at h1
theorem k37a (v:ByteArray):∃rb:Bool,Sp 37 [.nils,.str v] [] (.bool rb) []∧rb=false:=by
 obtain ⟨rb,h,e⟩:=k37 [] v (by simp)
 refine ⟨rb,nil1 h,?_⟩
 cases rb with
 |true=>have:=e.1 rfl;simp at this
 |false=>rfl
abbrev Z2c0:Nat×Ob:=(143,.row 1 (ks.map AV.str))
theorem k37b (v:ByteArray) (hks:ks.length<1000000000000000):∃rb:Bool,Sp 37 [.row 143 0 (ks.map AV.str).length,.str v] [Z2c0 ks] (.bool rb) []∧(rb=true↔v∈ks):=by
 obtain ⟨rb,h,e⟩:=k37 ks v hks
 exact ⟨rb,h.borrow [Z2c0 ks] rfl (bare1 (bareS ks)) rfl (all1 rfl) rfl,e⟩
theorem k10a (ts:List Tm) (hts:ts.length<1000000000000):Sp 10 [.agg [.str p,.seq (ts.map Tm.av) false],.nils] [] (.str (patT ts [])) []:=nil2 (pat_spec p ts false [] false hts (by simp))
theorem k10b (ts:List Tm) (ks:List ByteArray) (hts:ts.length<1000000000000) (hks:ks.length<1000000000000000):Sp 10 [.agg [.str p,.seq (ts.map Tm.av) false],.row 143 0 (ks.map AV.str).length] [(143,.row 1 (ks.map .str))] (.str (patT ts ks)) []:=
 (pat_spec p ts false ks false hts hks).borrow [(143,.row 1 (ks.map .str))] rfl (bare1 (bareS ks)) rfl (all1 rfl) rfl
theorem k83b (hne:bd≠[]) (hks:ks.length<1000000000000000) (hsm:bd.length≤1000) (hT:tinyB bd):∃i:Nat,i<bd.length∧Sp 83 [.row 45007 0 (bd.map Li.av).length,.row 143 0 (ks.map AV.str).length] [(45007,.row 16 (bd.map Li.av)),Z2c0 ks] (.int .i64 (i:Int)) []:=by
 obtain ⟨i,hi,h⟩:=k83 bd ks hne hks hsm hT
 exact ⟨i,hi,h.borrow [(45007,.row 16 (bd.map Li.av)),Z2c0 ks] rfl (bare2 (bareL bd) (bareS ks)) rfl (all2 rfl rfl) rfl⟩
theorem k82r (l:List Li) (hne:l≠[]) (hl:l.length<100000000):Sp 82 [.seq (l.map Li.av) false] [] (.row 45007 0 (l.map Li.av).length) [(45007,.row 16 (l.map Li.av))]:=by
 cases l with
 |nil=>exact absurd rfl hne
 |cons x l=>
  obtain ⟨e,t,⟨rfl,rfl⟩,h⟩:=c82c (Li.av x) (l.map Li.av) (ok_lis (x::l)) (noIdsL_lis (x::l)) (by simp at hl;simp;omega)
  have h1:Sp 82 [.seq ((x::l).map Li.av) false] [] (.row 7 0 ((x::l).map Li.av).length) [(7,.row 16 ((x::l).map Li.av))]:=Spec.newP (st':=⟨[(2,.row 7 0 ((x::l).map Li.av).length)],[(7,.row 16 ((x::l).map Li.av))]⟩) (fn:=Tryz.f82) (c:=bodyOf Tryz.f82) (by kernel_rfl) (by kernel_rfl) rfl rfl h.p (.inr rfl) (by kernel_rfl)
  have h2:=h1.renum [] [(7,45007)] (args':=[.seq ((x::l).map Li.av) false]) rfl rfl rfl
  have e:renL (kOut [(7,45007)]) ((x::l).map Li.av)=(x::l).map Li.av:=renL_noIds _ _ (noIdsL_lis (x::l))
  simp only [List.map_cons,List.map_nil,renOb] at h2 e⊢
  rw [e] at h2
  exact h2
def bat (s:ByteArray) (i:Nat):Prop:=s.data.toList[i]? =some 98
theorem bat_of {s:ByteArray} {i:Nat} {x:UInt8} (h:0≤(i:Int)∧∃b:UInt8,s.data.toList[Int.toNat (i:Int)]? =some b∧(x.toNat:Int)=b.toNat):decide ((x.toNat:Int)=98)=true↔bat s i:=by
 obtain ⟨_,b,h1,h2⟩:=h
 rw [Int.toNat_natCast] at h1
 rw [decide_eq_true_iff,h2,bat,h1]
 constructor
 ·intro e
  have:b=98:=UInt8.toNat_inj.1 (by simpa using (Int.ofNat.inj e))
  rw [this]
 ·intro e
  injection e with e
  subst e;rfl
def hin (s:ByteArray) (ks:List ByteArray) (i:Nat) (y:Ar):Prop:=bat s i∧y.t.v≠⟨#[]⟩∧y.t.v∉ks
theorem t47n (L:List Ad) (a:Ad) (rk rv:List AV) (out:List Ru) (p:ByteArray) (hd:List Ar) (bd:List Li) (i:Nat) (hi:i<hd.length) (hsm:hd.length≤24) (hpl:a.2.size=hd.length):En 119 (loopOf Tryz.f47 0) ⟨[(0,.elt 100000 0 0),(4,.tptr [.str p,.seq (hd.map Ar.av) false,.seq (bd.map Li.av) false]),(5,.tptr [.str a.1,.str a.2]),(6,.nils),(15,.seq (hd.map Ar.av) false),(16,.int .i64 ((hd.map Ar.av).length:Nat)),(17,.int .i64 (i:Int))],[(100000,.var [.own 2 (L.map adA),.map 100001,.tmap rk rv,.own 3 (out.map Ru.av)]),(100001,.map (L.map adA) (ixs L.length))]⟩ (fun e t=>(e= .normal∧(∃y,hd[i]? =some y∧¬hin a.2 [] i y)∧t=⟨[(0,.elt 100000 0 0),(4,.tptr [.str p,.seq (hd.map Ar.av) false,.seq (bd.map Li.av) false]),(5,.tptr [.str a.1,.str a.2]),(6,.nils),(15,.seq (hd.map Ar.av) false),(16,.int .i64 ((hd.map Ar.av).length:Nat)),(17,.int .i64 ((i+1:Nat):Int))],[(100000,.var [.own 2 (L.map adA),.map 100001,.tmap rk rv,.own 3 (out.map Ru.av)]),(100001,.map (L.map adA) (ixs L.length))]⟩)∨(e= .normal∧∃y,hd[i]? =some y∧hin a.2 [] i y∧t=⟨[(0,.elt 100000 0 0),(4,.tptr [.str p,.seq (hd.map Ar.av) false,.seq (bd.map Li.av) false]),(5,.tptr [.str a.1,.str a.2]),(6,.row 143 0 1),(15,.seq (hd.map Ar.av) false),(16,.int .i64 ((hd.map Ar.av).length:Nat)),(17,.int .i64 ((i+1:Nat):Int))],[(100000,.var [.own 2 (L.map adA),.map 100001,.tmap rk rv,.own 3 (out.map Ru.av)]),(100001,.map (L.map adA) (ixs L.length)),(143,.row 1 [.str y.t.v])]⟩)):=by
 obtain ⟨x0,hm0,hx0⟩:=elt_of Ar.av (l:=hd) (n:=(↑i:Int)) (by omega) (by omega)
 obtain ⟨x1,hx1⟩:=byte_of (s:=a.2) (n:=(↑i:Int)) (by omega) (by omega)
 rcases bft (decide ((↑(UInt8.toNat x1):Int)=98)) with h2|h2
 ·rcases bft (decide ((Ar.t x0).1=ByteArray.mk #[])) with h3|h3
  ·exact ⟨Out.normal,St.mk [(0,AV.elt 100000 0 0),(4,AV.tptr [AV.str p,AV.seq (List.map Ar.av hd) false,AV.seq (List.map Li.av bd) false]),(5,AV.tptr [AV.str a.1,AV.str a.2]),(6,AV.nils),(15,AV.seq (List.map Ar.av hd) false),(16,AV.int .i64 (↑(List.length (List.map Ar.av hd)):Int)),(17,AV.int .i64 ((↑i:Int)+1))] [(100000,Ob.var [AV.own 2 (List.map adA L),AV.map 100001,AV.tmap rk rv,AV.own 3 (List.map Ru.av out)]),(100001,Ob.map (List.map adA L) (ixs (List.length L)))],by first|exact .inl ⟨rfl,⟨x0,hm0,by have hb:=bat_of hx1;unfold hin;simp_all⟩,rfl⟩|exact .inr ⟨rfl,x0,hm0,by have hb:=bat_of hx1;unfold hin;simp_all,rfl⟩,gA 0 [.is true,.elt (.agg [.int .i8 x0.1,.str (Ar.t x0).1,.int .i8 (Ar.t x0).2,.int .i64 (Ar.t x0).3,.str (Ar.t x0).4]),.elt (.int .u8 (↑(UInt8.toNat x1):Int)),.is true,.is false] [0,4,5,6,15,16,17] [K0 100000,K1 100001] (by kernel_rfl) (aC7 (d1 Ar.av hd i (by omega)) hx0 hx1 h2 (nF h3) (w1 i (by omega)) (show noIdsL (L.map adA)=true∧noIdsL (ixs L.length)=true from by simp))⟩
  ·obtain ⟨r4,⟨hs5,hs5'⟩⟩:=k37a ((Ar.t x0).1)
   cases r4 with
   |true=>
    exact ⟨Out.normal,St.mk [(0,AV.elt 100000 0 0),(4,AV.tptr [AV.str p,AV.seq (List.map Ar.av hd) false,AV.seq (List.map Li.av bd) false]),(5,AV.tptr [AV.str a.1,AV.str a.2]),(6,AV.nils),(15,AV.seq (List.map Ar.av hd) false),(16,AV.int .i64 (↑(List.length (List.map Ar.av hd)):Int)),(17,AV.int .i64 ((↑i:Int)+1))] [(100000,Ob.var [AV.own 2 (List.map adA L),AV.map 100001,AV.tmap rk rv,AV.own 3 (List.map Ru.av out)]),(100001,Ob.map (List.map adA L) (ixs (List.length L)))],by first|exact .inl ⟨rfl,⟨x0,hm0,by have hb:=bat_of hx1;unfold hin;simp_all⟩,rfl⟩|exact .inr ⟨rfl,x0,hm0,by have hb:=bat_of hx1;unfold hin;simp_all,rfl⟩,gA 0 [.is true,.elt (.agg [.int .i8 x0.1,.str (Ar.t x0).1,.int .i8 (Ar.t x0).2,.int .i64 (Ar.t x0).3,.str (Ar.t x0).4]),.elt (.int .u8 (↑(UInt8.toNat x1):Int)),.is true,.is true,.call (.bool true) [] []] [0,4,5,6,15,16,17] [K0 100000,K1 100001] (by kernel_rfl) (aC8 (d1 Ar.av hd i (by omega)) hx0 hx1 h2 (nT h3) hs5 (w1 i (by omega)) (show noIdsL (L.map adA)=true∧noIdsL (ixs L.length)=true from by simp))⟩
   |false=>
    exact ⟨Out.normal,St.mk [(0,AV.elt 100000 0 0),(4,AV.tptr [AV.str p,AV.seq (List.map Ar.av hd) false,AV.seq (List.map Li.av bd) false]),(5,AV.tptr [AV.str a.1,AV.str a.2]),(6,AV.row 143 0 (0+List.length [AV.str (Ar.t x0).1])),(15,AV.seq (List.map Ar.av hd) false),(16,AV.int .i64 (↑(List.length (List.map Ar.av hd)):Int)),(17,AV.int .i64 ((↑i:Int)+1))] [(100000,Ob.var [AV.own 2 (List.map adA L),AV.map 100001,AV.tmap rk rv,AV.own 3 (List.map Ru.av out)]),(100001,Ob.map (List.map adA L) (ixs (List.length L))),(143,Ob.row 1 [AV.str (Ar.t x0).1])],by first|exact .inl ⟨rfl,⟨x0,hm0,by have hb:=bat_of hx1;unfold hin;simp_all⟩,rfl⟩|exact .inr ⟨rfl,x0,hm0,by have hb:=bat_of hx1;unfold hin;simp_all,rfl⟩,gA 0 [.is true,.elt (.agg [.int .i8 x0.1,.str (Ar.t x0).1,.int .i8 (Ar.t x0).2,.int .i64 (Ar.t x0).3,.str (Ar.t x0).4]),.elt (.int .u8 (↑(UInt8.toNat x1):Int)),.is true,.is true,.call (.bool false) [] [],.is true] [0,4,5,6,15,16,17] [K0 100000,K1 100001,(43,.keep 143 true)] (by kernel_rfl) (aC10 (d1 Ar.av hd i (by omega)) hx0 (show 0≤(↑i:Int)∧∃(b:UInt8),(ByteArray.data (Prod.snd a)).1[Int.toNat (↑i:Int)]? =some b∧(↑(UInt8.toNat x1):Int)=(↑(UInt8.toNat b):Int) from by assumption) h2 (nT h3) hs5 (show 1≤List.length [AV.str (Ar.t x0).1]∧[AV.str (Ar.t x0).1]≠[]∧(∀(e:AV),e∈[AV.str (Ar.t x0).1]→okE 1 e)∧(∀(e:AV),e∈[]→okE 1 e)∧(↑(0+List.length [AV.str (Ar.t x0).1]):Int)*16≤140737488355328∧0+List.length [AV.str (Ar.t x0).1]≤9223372036854775807 from by simp) (w1 i (by omega)) (show noIdsL (L.map adA)=true∧noIdsL (ixs L.length)=true from by simp) rT)⟩
 ·exact ⟨Out.normal,St.mk [(0,AV.elt 100000 0 0),(4,AV.tptr [AV.str p,AV.seq (List.map Ar.av hd) false,AV.seq (List.map Li.av bd) false]),(5,AV.tptr [AV.str a.1,AV.str a.2]),(6,AV.nils),(15,AV.seq (List.map Ar.av hd) false),(16,AV.int .i64 (↑(List.length (List.map Ar.av hd)):Int)),(17,AV.int .i64 ((↑i:Int)+1))] [(100000,Ob.var [AV.own 2 (List.map adA L),AV.map 100001,AV.tmap rk rv,AV.own 3 (List.map Ru.av out)]),(100001,Ob.map (List.map adA L) (ixs (List.length L)))],by first|exact .inl ⟨rfl,⟨x0,hm0,by have hb:=bat_of hx1;unfold hin;simp_all⟩,rfl⟩|exact .inr ⟨rfl,x0,hm0,by have hb:=bat_of hx1;unfold hin;simp_all,rfl⟩,gA 0 [.is true,.elt (.agg [.int .i8 x0.1,.str (Ar.t x0).1,.int .i8 (Ar.t x0).2,.int .i64 (Ar.t x0).3,.str (Ar.t x0).4]),.elt (.int .u8 (↑(UInt8.toNat x1):Int)),.is false] [0,4,5,6,15,16,17] [K0 100000,K1 100001] (by kernel_rfl) (aC6 (d1 Ar.av hd i (by omega)) hx0 hx1 h2 (w1 i (by omega)) (show noIdsL (L.map adA)=true∧noIdsL (ixs L.length)=true from by simp))⟩
theorem t47r (L:List Ad) (a:Ad) (rk rv:List AV) (out:List Ru) (p:ByteArray) (hd:List Ar) (bd:List Li) (ks:List ByteArray) (hks:ks.length<1000000) (i:Nat) (hi:i<hd.length) (hsm:hd.length≤24) (hpl:a.2.size=hd.length):En 119 (loopOf Tryz.f47 0) ⟨[(0,.elt 100000 0 0),(4,.tptr [.str p,.seq (hd.map Ar.av) false,.seq (bd.map Li.av) false]),(5,.tptr [.str a.1,.str a.2]),(6,.row 143 0 (ks.map AV.str).length),(15,.seq (hd.map Ar.av) false),(16,.int .i64 ((hd.map Ar.av).length:Nat)),(17,.int .i64 (i:Int))],[(100000,.var [.own 2 (L.map adA),.map 100001,.tmap rk rv,.own 3 (out.map Ru.av)]),(100001,.map (L.map adA) (ixs L.length)),(143,.row 1 (ks.map .str))]⟩ (fun e t=>(e= .normal∧(∃y,hd[i]? =some y∧¬hin a.2 ks i y)∧t=⟨[(0,.elt 100000 0 0),(4,.tptr [.str p,.seq (hd.map Ar.av) false,.seq (bd.map Li.av) false]),(5,.tptr [.str a.1,.str a.2]),(6,.row 143 0 (ks.map AV.str).length),(15,.seq (hd.map Ar.av) false),(16,.int .i64 ((hd.map Ar.av).length:Nat)),(17,.int .i64 ((i+1:Nat):Int))],[(100000,.var [.own 2 (L.map adA),.map 100001,.tmap rk rv,.own 3 (out.map Ru.av)]),(100001,.map (L.map adA) (ixs L.length)),(143,.row 1 (ks.map .str))]⟩)∨(e= .normal∧∃y,hd[i]? =some y∧hin a.2 ks i y∧t=⟨[(0,.elt 100000 0 0),(4,.tptr [.str p,.seq (hd.map Ar.av) false,.seq (bd.map Li.av) false]),(5,.tptr [.str a.1,.str a.2]),(6,.row 143 0 ((ks.map AV.str).length+1)),(15,.seq (hd.map Ar.av) false),(16,.int .i64 ((hd.map Ar.av).length:Nat)),(17,.int .i64 ((i+1:Nat):Int))],[(100000,.var [.own 2 (L.map adA),.map 100001,.tmap rk rv,.own 3 (out.map Ru.av)]),(100001,.map (L.map adA) (ixs L.length)),(143,.row 1 (ks.map .str++[.str y.t.v]))]⟩)):=by
 obtain ⟨x0,hm0,hx0⟩:=elt_of Ar.av (l:=hd) (n:=(↑i:Int)) (by omega) (by omega)
 obtain ⟨x1,hx1⟩:=byte_of (s:=a.2) (n:=(↑i:Int)) (by omega) (by omega)
 rcases bft (decide ((↑(UInt8.toNat x1):Int)=98)) with h2|h2
 ·rcases bft (decide ((Ar.t x0).1=ByteArray.mk #[])) with h3|h3
  ·exact ⟨Out.normal,St.mk [(0,AV.elt 100000 0 0),(4,AV.tptr [AV.str p,AV.seq (List.map Ar.av hd) false,AV.seq (List.map Li.av bd) false]),(5,AV.tptr [AV.str a.1,AV.str a.2]),(6,AV.row 143 0 (List.length (List.map AV.str ks))),(15,AV.seq (List.map Ar.av hd) false),(16,AV.int .i64 (↑(List.length (List.map Ar.av hd)):Int)),(17,AV.int .i64 ((↑i:Int)+1))] [(100000,Ob.var [AV.own 2 (List.map adA L),AV.map 100001,AV.tmap rk rv,AV.own 3 (List.map Ru.av out)]),(100001,Ob.map (List.map adA L) (ixs (List.length L))),(143,Ob.row 1 (List.map AV.str ks))],by first|exact .inl ⟨rfl,⟨x0,hm0,by have hb:=bat_of hx1;unfold hin;simp_all⟩,rfl⟩|exact .inr ⟨rfl,x0,hm0,by have hb:=bat_of hx1;unfold hin;simp_all,rfl⟩,gA 0 [.is true,.elt (AV.agg [AV.int .i8 x0.1,AV.str (Ar.t x0).1,AV.int .i8 (Ar.t x0).2,AV.int .i64 (Ar.t x0).3,AV.str (Ar.t x0).4]),.elt (AV.int .u8 (↑(UInt8.toNat x1):Int)),.is true,.is false] [0,4,5,6,15,16,17] [(100000,Rk.keep 100000 false),(100001,Rk.keep 100001 true),(143,Rk.keep 143 true)] (by kernel_rfl) (aC8 (d1 Ar.av hd i (by omega)) hx0 (show 0≤(↑i:Int)∧∃(b:UInt8),(ByteArray.data (Prod.snd a)).1[Int.toNat (↑i:Int)]? =some b∧(↑(UInt8.toNat x1):Int)=(↑(UInt8.toNat b):Int) from by assumption) h2 (nF h3) (w1 i (by omega)) (show noIdsL (List.map adA L)=true∧noIdsL (ixs (List.length L))=true from by simp) (show noIdsL (List.map AV.str ks)=true from by simp))⟩
  ·obtain ⟨r4,⟨hs5,hs5'⟩⟩:=k37b ks ((Ar.t x0).1) (by omega)
   cases r4 with
   |true=>
    exact ⟨Out.normal,St.mk [(0,AV.elt 100000 0 0),(4,AV.tptr [AV.str p,AV.seq (List.map Ar.av hd) false,AV.seq (List.map Li.av bd) false]),(5,AV.tptr [AV.str a.1,AV.str a.2]),(6,AV.row 143 0 (List.length (List.map AV.str ks))),(15,AV.seq (List.map Ar.av hd) false),(16,AV.int .i64 (↑(List.length (List.map Ar.av hd)):Int)),(17,AV.int .i64 ((↑i:Int)+1))] [(100000,Ob.var [AV.own 2 (List.map adA L),AV.map 100001,AV.tmap rk rv,AV.own 3 (List.map Ru.av out)]),(100001,Ob.map (List.map adA L) (ixs (List.length L))),(143,Ob.row 1 (List.map AV.str ks))],by first|exact .inl ⟨rfl,⟨x0,hm0,by have hb:=bat_of hx1;unfold hin;simp_all⟩,rfl⟩|exact .inr ⟨rfl,x0,hm0,by have hb:=bat_of hx1;unfold hin;simp_all,rfl⟩,gA 0 [.is true,.elt (AV.agg [AV.int .i8 x0.1,AV.str (Ar.t x0).1,AV.int .i8 (Ar.t x0).2,AV.int .i64 (Ar.t x0).3,AV.str (Ar.t x0).4]),.elt (AV.int .u8 (↑(UInt8.toNat x1):Int)),.is true,.is true,.call (AV.bool true) [143] []] [0,4,5,6,15,16,17] [(100000,Rk.keep 100000 false),(100001,Rk.keep 100001 true),(143,Rk.keep 143 true)] (by kernel_rfl) (aC9 (d1 Ar.av hd i (by omega)) hx0 (show 0≤(↑i:Int)∧∃(b:UInt8),(ByteArray.data (Prod.snd a)).1[Int.toNat (↑i:Int)]? =some b∧(↑(UInt8.toNat x1):Int)=(↑(UInt8.toNat b):Int) from by assumption) h2 (nT h3) hs5 (w1 i (by omega)) (show noIdsL (List.map adA L)=true∧noIdsL (ixs (List.length L))=true from by simp) (show noIdsL (List.map AV.str ks)=true from by simp))⟩
   |false=>
    exact ⟨Out.normal,St.mk [(0,AV.elt 100000 0 0),(4,AV.tptr [AV.str p,AV.seq (List.map Ar.av hd) false,AV.seq (List.map Li.av bd) false]),(5,AV.tptr [AV.str a.1,AV.str a.2]),(6,AV.row 143 0 (List.length (List.map AV.str ks)+List.length [AV.str (Ar.t x0).1])),(15,AV.seq (List.map Ar.av hd) false),(16,AV.int .i64 (↑(List.length (List.map Ar.av hd)):Int)),(17,AV.int .i64 ((↑i:Int)+1))] [(100000,Ob.var [AV.own 2 (List.map adA L),AV.map 100001,AV.tmap rk rv,AV.own 3 (List.map Ru.av out)]),(100001,Ob.map (List.map adA L) (ixs (List.length L))),(143,Ob.row 1 (List.map AV.str ks++[AV.str (Ar.t x0).1]))],by first|exact .inl ⟨rfl,⟨x0,hm0,by have hb:=bat_of hx1;unfold hin;simp_all⟩,rfl⟩|exact .inr ⟨rfl,x0,hm0,by have hb:=bat_of hx1;unfold hin;simp_all,rfl⟩,gA 0 [.is true,.elt (AV.agg [AV.int .i8 x0.1,AV.str (Ar.t x0).1,AV.int .i8 (Ar.t x0).2,AV.int .i64 (Ar.t x0).3,AV.str (Ar.t x0).4]),.elt (AV.int .u8 (↑(UInt8.toNat x1):Int)),.is true,.is true,.call (AV.bool false) [143] [],.is true] [0,4,5,6,15,16,17] [(100000,Rk.keep 100000 false),(100001,Rk.keep 100001 true),(43,Rk.keep 143 true)] (by kernel_rfl) (aC10 (d1 Ar.av hd i (by omega)) hx0 (show 0≤(↑i:Int)∧∃(b:UInt8),(ByteArray.data (Prod.snd a)).1[Int.toNat (↑i:Int)]? =some b∧(↑(UInt8.toNat x1):Int)=(↑(UInt8.toNat b):Int) from by assumption) h2 (nT h3) hs5 (show (1:Nat)≤List.length [AV.str (Ar.t x0).1]∧(0:Nat)=(0:Nat)∧List.length (List.map AV.str ks)=List.length (List.map AV.str ks)∧(∀(e:AV),e∈[AV.str (Ar.t x0).1]→okE (1:Nat) e)∧(∀(e:AV),e∈List.map AV.str ks→okE (1:Nat) e)∧(↑(List.length (List.map AV.str ks)+List.length [AV.str (Ar.t x0).1]):Int)*(16:Int)≤(140737488355328:Int)∧List.length (List.map AV.str ks)+List.length [AV.str (Ar.t x0).1]≤(9223372036854775807:Nat) from by simp;omega) (w1 i (by omega)) (show noIdsL (List.map adA L)=true∧noIdsL (ixs (List.length L))=true from by simp) (show noIdsL (List.map AV.str ks++[AV.str (Ar.t x0).1])=true from by simp))⟩
 ·exact ⟨Out.normal,St.mk [(0,AV.elt 100000 0 0),(4,AV.tptr [AV.str p,AV.seq (List.map Ar.av hd) false,AV.seq (List.map Li.av bd) false]),(5,AV.tptr [AV.str a.1,AV.str a.2]),(6,AV.row 143 0 (List.length (List.map AV.str ks))),(15,AV.seq (List.map Ar.av hd) false),(16,AV.int .i64 (↑(List.length (List.map Ar.av hd)):Int)),(17,AV.int .i64 ((↑i:Int)+1))] [(100000,Ob.var [AV.own 2 (List.map adA L),AV.map 100001,AV.tmap rk rv,AV.own 3 (List.map Ru.av out)]),(100001,Ob.map (List.map adA L) (ixs (List.length L))),(143,Ob.row 1 (List.map AV.str ks))],by first|exact .inl ⟨rfl,⟨x0,hm0,by have hb:=bat_of hx1;unfold hin;simp_all⟩,rfl⟩|exact .inr ⟨rfl,x0,hm0,by have hb:=bat_of hx1;unfold hin;simp_all,rfl⟩,gA 0 [.is true,.elt (AV.agg [AV.int .i8 x0.1,AV.str (Ar.t x0).1,AV.int .i8 (Ar.t x0).2,AV.int .i64 (Ar.t x0).3,AV.str (Ar.t x0).4]),.elt (AV.int .u8 (↑(UInt8.toNat x1):Int)),.is false] [0,4,5,6,15,16,17] [(100000,Rk.keep 100000 false),(100001,Rk.keep 100001 true),(143,Rk.keep 143 true)] (by kernel_rfl) (aC7 (d1 Ar.av hd i (by omega)) hx0 (show 0≤(↑i:Int)∧∃(b:UInt8),(ByteArray.data (Prod.snd a)).1[Int.toNat (↑i:Int)]? =some b∧(↑(UInt8.toNat x1):Int)=(↑(UInt8.toNat b):Int) from by assumption) h2 (w1 i (by omega)) (show noIdsL (List.map adA L)=true∧noIdsL (ixs (List.length L))=true from by simp) (show noIdsL (List.map AV.str ks)=true from by simp))⟩
abbrev Z2c1:Nat×AV:=(0,.elt 100000 0 0)
abbrev Z2c2:Nat×AV:=(4,.tptr [.str p,.seq (hd.map Ar.av) false,.seq (bd.map Li.av) false])
abbrev Z2c3:Nat×AV:=(5,.tptr [.str a.1,.str a.2])
abbrev Z2c4:Nat×AV:=(15,.seq (hd.map Ar.av) false)
abbrev Z2c5:Nat×AV:=(16,.int .i64 ((hd.map Ar.av).length:Nat))
abbrev Z2c6:Nat×Ob:=(100000,.var [.own 2 (L.map adA),.map 100001,.tmap rk rv,.own 3 (out.map Ru.av)])
abbrev Z2c7:Nat×Ob:=(100001,.map (L.map adA) (ixs L.length))
abbrev Z2ca:St:=⟨[Z2c1,Z2c2 p hd bd,Z2c3 a,(6,.nils)],[Z2c6 L rk rv out,Z2c7 L]⟩
theorem e47n:En 119 (loopOf Tryz.f47 0) ⟨[Z2c1,Z2c2 p hd bd,Z2c3 a,(6,.nils),Z2c4 hd,Z2c5 hd,(17,.int .i64 ((hd.length:Nat):Int))],[Z2c6 L rk rv out,Z2c7 L]⟩ (fun e t=>e= .exit 0∧t=(Z2ca L a rk rv out p hd bd)):=by
 exact gE ⟨rfl,rfl⟩ 0 [.is false] [0,4,5,6] [K0 100000,K1 100001] (aC2 (zs1dwb hd) (zshd3q L))
theorem zs2m9r (ks:List ByteArray):noIdsL (ks.map AV.str)=true:=by simp
abbrev Z2cb:St:=⟨[Z2c1,Z2c2 p hd bd,Z2c3 a,(6,.row 143 0 (ks.map AV.str).length)],[Z2c6 L rk rv out,Z2c7 L,Z2c0 ks]⟩
theorem e47r:En 119 (loopOf Tryz.f47 0) ⟨[Z2c1,Z2c2 p hd bd,Z2c3 a,(6,.row 143 0 (ks.map AV.str).length),Z2c4 hd,Z2c5 hd,(17,.int .i64 ((hd.length:Nat):Int))],[Z2c6 L rk rv out,Z2c7 L,Z2c0 ks]⟩ (fun e t=>e= .exit 0∧t=(Z2cb L a rk rv out p hd bd ks)):=by
 exact gE ⟨rfl,rfl⟩ 0 [.is false] [0,4,5,6] [K0 100000,K1 100001,K1 143] (aC3 (zs1dwb hd) (zshd3q L) (zs2m9r ks))
def kV:List ByteArray→AV
 |[]=> .nils
 |x::r=> .row 143 0 ((x::r).map AV.str).length
def kP:List ByteArray→List (Nat×Ob)
 |[]=>[]
 |x::r=>[(143,.row 1 ((x::r).map AV.str))]
theorem l47_0 (hsm:hd.length≤24) (hpl:a.2.size=hd.length):∃ks:List ByteArray,Lo 119 (loopOf Tryz.f47 0) ⟨[Z2c1,Z2c2 p hd bd,Z2c3 a,(6,.nils),Z2c4 hd,Z2c5 hd,(17,.int .i64 0)],wp L rk rv out⟩ (.exit 0) ⟨[Z2c1,Z2c2 p hd bd,Z2c3 a,(6,kV ks)],wp L rk rv out++kP ks⟩∧ks.length≤hd.length∧(∀v,v∈ks↔∃(j:Nat) (y:Ar),hd[j]? =some y∧bat a.2 j∧y.t.v=v∧v≠⟨#[]⟩):=by
 have T:∀(i:Nat) (ks:List ByteArray),i<hd.length→(ks.length≤i∧(∀v,v∈ks↔∃(j:Nat) (y:Ar),j<i∧hd[j]? =some y∧bat a.2 j∧y.t.v=v∧v≠⟨#[]⟩))→En 119 (loopOf Tryz.f47 0) ⟨[Z2c1,Z2c2 p hd bd,Z2c3 a,(6,kV ks),Z2c4 hd,Z2c5 hd,(17,.int .i64 (i:Int))],wp L rk rv out++kP ks⟩ (fun e t=>e= .normal∧∃ks:List ByteArray,(ks.length≤i+1∧(∀v,v∈ks↔∃(j:Nat) (y:Ar),j<i+1∧hd[j]? =some y∧bat a.2 j∧y.t.v=v∧v≠⟨#[]⟩))∧t=⟨[Z2c1,Z2c2 p hd bd,Z2c3 a,(6,kV ks),Z2c4 hd,Z2c5 hd,(17,.int .i64 ((i+1:Nat):Int))],wp L rk rv out++kP ks⟩):=by
  intro i ks hi ⟨hk,hv⟩
  have same:∀y,hd[i]? =some y→¬hin a.2 ks i y→∀v,v∈ks↔∃(j:Nat) (y:Ar),j<i+1∧hd[j]? =some y∧bat a.2 j∧y.t.v=v∧v≠⟨#[]⟩:=by
   intro y hy hn v
   rw [hv]
   constructor
   ·rintro ⟨j,z,h1,h2⟩;exact ⟨j,z,by omega,h2⟩
   ·rintro ⟨j,z,h1,h2,h3,h4,h5⟩
    by_cases e:j=i
    ·subst e
     rw [hy] at h2;injection h2 with h2;subst h2
     have:v∈ks:=Classical.not_not.1 fun h6=>hn ⟨h3,by rw [h4];exact h5,by rw [h4];exact h6⟩
     exact (hv v).1 this
    ·exact ⟨j,z,by omega,h2,h3,h4,h5⟩
  have more:∀y,hd[i]? =some y→hin a.2 ks i y→∀v,v∈ks++[y.t.v]↔∃(j:Nat) (y:Ar),j<i+1∧hd[j]? =some y∧bat a.2 j∧y.t.v=v∧v≠⟨#[]⟩:=by
   intro y hy ⟨n1,n2,n3⟩ v
   rw [List.mem_append,List.mem_singleton,hv]
   constructor
   ·rintro (⟨j,z,h1,h2⟩|h1)
    ·exact ⟨j,z,by omega,h2⟩
    ·exact ⟨i,y,by omega,hy,n1,h1.symm,by rw [h1];exact n2⟩
   ·rintro ⟨j,z,h1,h2,h3,h4,h5⟩
    by_cases e:j=i
    ·subst e
     rw [hy] at h2;injection h2 with h2;subst h2
     exact .inr h4.symm
    ·exact .inl ⟨j,z,by omega,h2,h3,h4,h5⟩
  cases ks with
  |nil=>
   obtain ⟨e,t,⟨rfl,⟨y,hy,hn⟩,rfl⟩|⟨rfl,y,hy,hn,rfl⟩,h⟩:=t47n L a rk rv out p hd bd i hi hsm hpl
   ·exact ⟨_,_,⟨rfl,[],⟨by simp,same y hy hn⟩,rfl⟩,h⟩
   ·exact ⟨_,_,⟨rfl,[y.t.v],⟨by simp,more y hy hn⟩,rfl⟩,h⟩
  |cons x r=>
   obtain ⟨e,t,⟨rfl,⟨y,hy,hn⟩,rfl⟩|⟨rfl,y,hy,hn,rfl⟩,h⟩:=t47r L a rk rv out p hd bd (x::r) (by omega) i hi hsm hpl
   ·exact ⟨_,_,⟨rfl,x::r,⟨by omega,same y hy hn⟩,rfl⟩,h⟩
   ·refine ⟨_,_,⟨rfl,(x::r)++[y.t.v],⟨by rw [List.length_append];simp only [List.length_singleton];omega,more y hy hn⟩,?_⟩,h⟩
    rw [show kV ((x::r)++[y.t.v])= .row 143 0 (((x::r).map AV.str).length+1) from by simp [kV],show kP ((x::r)++[y.t.v])=[(143,.row 1 ((x::r).map AV.str++[.str y.t.v]))] from by simp [kP]]
    rfl
 obtain ⟨ks,⟨h1,h2⟩,h⟩:=inv_loop0 (P:=Tryz.prog) (n:=119) (c:=loopOf Tryz.f47 0) (N:=hd.length) (k:=0) (γ:=List ByteArray) (fun i ks=>⟨[Z2c1,Z2c2 p hd bd,Z2c3 a,(6,kV ks),Z2c4 hd,Z2c5 hd,(17,.int .i64 (i:Int))],wp L rk rv out++kP ks⟩) (fun ks=>⟨[Z2c1,Z2c2 p hd bd,Z2c3 a,(6,kV ks)],wp L rk rv out++kP ks⟩)
  (fun i ks=>ks.length≤i∧(∀v,v∈ks↔∃(j:Nat) (y:Ar),j<i∧hd[j]? =some y∧bat a.2 j∧y.t.v=v∧v≠⟨#[]⟩)) T (fun ks hg=>by
   cases ks with
   |nil=>exact e47n L a rk rv out p hd bd
   |cons x r=>exact e47r L a rk rv out p hd bd (x::r)) [] ⟨by simp,fun v=>⟨fun h=>by simp at h,fun ⟨j,_,h,_⟩=>absurd h (Nat.not_lt_zero _)⟩⟩
 refine ⟨ks,h,h1,fun v=>(h2 v).trans ⟨fun ⟨j,y,_,h⟩=>⟨j,y,h⟩,fun ⟨j,y,h⟩=>⟨j,y,(List.getElem?_eq_some_iff.1 h.1).1,h⟩⟩⟩
theorem w47a:EN 119 (partC 0 (bodyOf Tryz.f47)) ⟨[Z2c1,(1,.agg [.str p,.seq (hd.map Ar.av) false,.seq (bd.map Li.av) false]),(2,.agg [.str a.1,.str a.2])],[Z2c6 L rk rv out,Z2c7 L]⟩ ⟨[Z2c1,Z2c2 p hd bd,Z2c3 a],[Z2c6 L rk rv out,Z2c7 L]⟩:=by
 exact gE ⟨rfl,rfl⟩ 0 [] [0,4,5] [K0 100000,K1 100001,(4,.freeze),(5,.freeze)] (aC3 (zshd3q L) rT rT)
abbrev Z2c8:Nat×AV:=(5,.tptr [.str (Prod.fst a),.str (Prod.snd a)])
abbrev Z2cc:St:=⟨[Z2c1,Z2c2 p hd bd,Z2c3 a,(6,.nils),Z2c4 hd,Z2c5 hd,(17,.int .i64 0)],[Z2c6 L rk rv out,Z2c7 L]⟩
theorem w47bn (l47_0q:Lo 119 (loopOf Tryz.f47 0) (Z2cc L a rk rv out p hd bd) (.exit 0) (Z2ca L a rk rv out p hd bd)):EN 119 (partC 2 (bodyOf Tryz.f47)) (Z2ca L a rk rv out p hd bd) (Z2ca L a rk rv out p hd bd):=by
 have hl0:=l47_0q
 exact gE ⟨rfl,rfl⟩ 0 [.cut [0,4,5,6,15,16,17] [K0 100000,K1 100001],.sum (.exit 0) [Z2c1,Z2c2 p hd bd,Z2c8 a,(6,.nils)] [Z2c6 L rk rv out,Z2c7 L]] [0,4,5,6] [K0 100000,K1 100001] (aC3 (zshd3q L) hl0 (zshd3q L))
abbrev Z2c9:Nat×Ob:=(10,.var [.str (nameT a.1 a.2),.seq (hd.map Ar.av) false,.nils])
theorem w47cn (hsm:hd.length≤24) (hp:a.1.size<1000000000000000000) (hs:a.2.size<1000000000000000000):EN 119 (partC 3 (bodyOf Tryz.f47)) (Z2ca L a rk rv out p hd bd) ⟨[Z2c1,Z2c2 p hd bd,(6,.nils),(10,.elt 10 0 0)],[Z2c6 L rk rv out,Z2c7 L,Z2c9 a hd]⟩:=by
 have hs0:=k14 a.1 a.2 (by assumption) (by assumption)
 have hs1:=k81 hd (by omega)
 exact gE ⟨rfl,rfl⟩ 0 [.call (.str (ByteArray.mk #[113,95]++a.2++ByteArray.mk #[95]++a.1)) [] [],.call (.seq (hd.map Ar.av) false) [] []] [0,4,6,10] [K0 100000,K1 100001,K1 10] (aC4 hs0 hs1 (zshd3q L) rT)
theorem w47br (l47_0q:Lo 119 (loopOf Tryz.f47 0) (Z2cc L a rk rv out p hd bd) (.exit 0) (Z2cb L a rk rv out p hd bd ks)):EN 119 (partC 2 (bodyOf Tryz.f47)) (Z2ca L a rk rv out p hd bd) (Z2cb L a rk rv out p hd bd ks):=by
 have hl0:=l47_0q
 exact gE ⟨rfl,rfl⟩ 0 [.cut [0,4,5,6,15,16,17] [K0 100000,K1 100001],.sum (.exit 0) [Z2c1,Z2c2 p hd bd,Z2c8 a,(6,.row 143 0 (ks.map AV.str).length)] [Z2c6 L rk rv out,Z2c7 L,Z2c0 ks]] [0,4,5,6] [K0 100000,K1 100001,K1 143] (aC4 (zshd3q L) hl0 (zshd3q L) (zs2m9r ks))
theorem w47cr (hsm:hd.length≤24) (hp:a.1.size<1000000000000000000) (hs:a.2.size<1000000000000000000):EN 119 (partC 3 (bodyOf Tryz.f47)) (Z2cb L a rk rv out p hd bd ks) ⟨[Z2c1,Z2c2 p hd bd,(6,.row 143 0 (ks.map AV.str).length),(10,.elt 10 0 0)],[Z2c6 L rk rv out,Z2c7 L,Z2c0 ks,Z2c9 a hd]⟩:=by
 have hs0:=k14 a.1 a.2 (by assumption) (by assumption)
 have hs1:=k81 hd (by omega)
 exact gE ⟨rfl,rfl⟩ 0 [.call (.str (ByteArray.mk #[113,95]++a.2++ByteArray.mk #[95]++a.1)) [] [],.call (.seq (hd.map Ar.av) false) [] []] [0,4,6,10] [K0 100000,K1 100001,K1 143,K1 10] (aC5 hs0 hs1 (zshd3q L) (zs2m9r ks) rT)
end
section
variable (L:List Ad) (rn:List ByteArray) (rv:List AV) (out:List Ru) (nm:ByteArray) (hd:List Ar) (bd bo:List Li) (ks:List ByteArray) (i:Nat) (x:Li)
theorem k46p (p s:ByteArray) (rk rv:List AV) (out:List Ru) (hl:L.length<1000000) (hp:p.size<1000000000000000000) (hs:s.size<1000000000000000000):Sp 46 [.elt 100000 0 0,.agg [.str p,.str s]] (wp L rk rv out) (.str (nameT p s)) (wp (meetL L (p,s)) rk rv out):=k46 L (p,s) rk rv out hl hp hs
theorem clip2 {P:Program} {f:FuncId} {x:AV} {r:AV} (h:Spec P f [x,.seq [] false] [] r []):Spec P f [x,.seq [] true] [] r []:=h.wkA rfl fun i a b h1 h2=>by
 match i,h1,h2 with
 |0,h1,h2=>simp at h1 h2;subst h1;subst h2;exact .refl _
 |1,h1,h2=>simp at h1 h2;subst h1;subst h2;exact .clip [] true
 |n+2,h1,h2=>simp at h1
theorem k10c (p:ByteArray) (ts:List Tm) (hts:ts.length<1000000000000):Sp 10 [.agg [.str p,.seq (ts.map Tm.av) false],.seq [] true] [] (.str (patT ts [])) []:=clip2 (pat_spec p ts false [] false hts (by simp))
abbrev Z2d0:Nat×Ob:=(45007,.row 16 (bd.map Li.av))
theorem n83 (hne:bd≠[]) (hsm:bd.length≤1000) (hT:tinyB bd):∃i:Nat,i<bd.length∧Sp 83 [.row 45007 0 (bd.map Li.av).length,.seq [] true] [Z2d0 bd] (.int .i64 (i:Int)) []:=by
 obtain ⟨i,hi,h⟩:=k83 bd [] hne (by simp) hsm hT
 exact ⟨i,hi,(clip2 h).borrow [Z2d0 bd] rfl (bare1 (bareL bd)) rfl (all1 rfl) rfl⟩
theorem le_nilC {n:Nat} {st:St} (t:Nat) (ht:lookD st.env t= .nils):Le n st ⟨(t,.seq [] true)::st.env,st.hp⟩:=by
 rintro F a w ⟨S,β,⟨e1,e2,e3⟩,M⟩
 refine ⟨S,β,⟨e1,e2,fun k=> ?_⟩,M⟩
 by_cases e:t=k
 ·subst e
  have h:=e3 t
  rw [ht] at h
  have e4:lookD ((t,AV.seq [] true)::st.env) t= .seq [] true:=by simp [lookD,look]
  rw [e4]
  generalize a.eval (.tmp t)=v at h⊢
  cases h
  exact .seq none 0 0 0 0 [] true (fun _ _=>undef) (by simp) (by simp [maxLen]) (fun _=>rfl) (fun h=>absurd rfl h) (by simp) (by simp) (by simp)
 ·have e4:lookD ((t,AV.seq [] true)::st.env) k=lookD st.env k:=by simp [lookD,look,e]
  rw [e4];exact e3 k
theorem k84p (hB:x.terms.length<100000000):Sp 84 [x.av] [] x.av []:=k84 x hB
theorem zsokbf (bd:List Li):noIdsL (bd.map Li.av)=true:=by simp
abbrev Z2d1:Nat×AV:=(0,.elt 100000 0 0)
abbrev Z2d2:Nat×AV:=(6,.seq [] true)
abbrev Z2d3:Nat×AV:=(10,.elt 10 0 0)
abbrev Z2d4:Nat×Ob:=(100000,.var [.own 2 (L.map adA),.map 100001,.tmap (rn.map AV.str) rv,.own 3 (out.map Ru.av)])
abbrev Z2d5:Nat×Ob:=(100001,.map (L.map adA) (ixs L.length))
abbrev Z2d6:Nat×Ob:=(10,.var [.str nm,.seq (hd.map Ar.av) false,.own 16 (bo.map Li.av)])
abbrev Z2d7:Nat×AV:=(12,.int .i64 (i:Int))
abbrev Z2dd:St:=⟨[Z2d1,Z2d2,Z2d3,(11,.row 45007 0 (bd.map Li.av).length),Z2d7 i],[Z2d4 L rn rv out,Z2d5 L,Z2d6 nm hd bo,Z2d0 bd]⟩
theorem r47an (k83:Sp 83 [.row 45007 0 (bd.map Li.av).length,.seq [] true] [Z2d0 bd] (.int .i64 (i:Int)) []):EN 119 (regOf Tryz.f47 57) ⟨[Z2d1,Z2d2,Z2d3,(11,.row 45007 0 (bd.map Li.av).length)],[Z2d4 L rn rv out,Z2d5 L,Z2d6 nm hd bo,Z2d0 bd]⟩ (Z2dd L rn rv out nm hd bd bo i):=by
 have hs0:=k83
 exact gE ⟨rfl,rfl⟩ 0 [.call (.int .i64 (i:Int)) [45007] []] [0,6,10,11,12] [K0 100000,K1 100001,K0 10,K1 45007] (aC3 hs0 (zshd3q L) (zsokbf bd))
abbrev Z2d8:Nat×AV:=(13,.elt 13 0 0)
abbrev Z2d9:Nat×Ob:=(13,.var x.cells)
abbrev Z2de:St:=⟨[Z2d1,Z2d2,Z2d3,(11,.row 45007 0 (bd.map Li.av).length),Z2d7 i,Z2d8],[Z2d4 L rn rv out,Z2d5 L,Z2d6 nm hd bo,Z2d0 bd,Z2d9 x]⟩
theorem r47bn (hx:(bd.map Li.av)[0+Int.toNat (i:Int)]? =some x.av) (hi:i<bd.length) (hB:x.terms.length<100000000):EN 119 (regOf Tryz.f47 60) (Z2dd L rn rv out nm hd bd bo i) (Z2de L rn rv out nm hd bd bo i x):=by
 have hs0:=k84p x (by assumption)
 exact gE ⟨rfl,rfl⟩ 0 [.elt (Li.av x),.call (.agg x.cells) [] []] [0,6,10,11,12,13] [K0 100000,K1 100001,K0 10,K1 45007,K1 13] (aC6 (show 0≤(i:Int)∧(i:Int)<(↑(bd.map Li.av).length:Int) from by simp;omega) hx hs0 (zshd3q L) (zsokbf bd) rT)
abbrev Z2da:Nat×AV:=(79,.bool false)
abbrev Z2df:St:=⟨[Z2d1,Z2d2,Z2d3,(11,.row 45007 0 (bd.map Li.av).length),Z2d7 i,Z2d8,Z2da],[Z2d4 L rn rv out,Z2d5 L,Z2d6 nm hd bo,Z2d0 bd,Z2d9 x]⟩
theorem r47cn (hk:decide (x.k=1)=false):EN 119 (regOf Tryz.f47 65) (Z2de L rn rv out nm hd bd bo i x) (Z2df L rn rv out nm hd bd bo i x):=by
 exact gE ⟨rfl,rfl⟩ 0 [.is false] [0,6,10,11,12,13,79] [K0 100000,K1 100001,K0 10,K1 45007,K1 13] (aC4 hk (zshd3q L) (zsokbf bd) rT)
theorem r47dn (hk:decide (x.k=1)=true) (hf:findA true (.str x.p) (rn.map AV.str) 0=some none):EN 119 (regOf Tryz.f47 65) (Z2de L rn rv out nm hd bd bo i x) (Z2df L rn rv out nm hd bd bo i x):=by
 exact gE ⟨rfl,rfl⟩ 0 [.is true,.is false,.is false] [0,6,10,11,12,13,79] [K0 100000,K1 100001,K0 10,K1 45007,K1 13] (aC6 hk hf rF (zshd3q L) (zsokbf bd) rT)
abbrev Z2db:Nat×AV:=(79,.bool true)
abbrev Z2dg:St:=⟨[Z2d1,Z2d2,Z2d3,(11,.row 45007 0 (bd.map Li.av).length),Z2d7 i,Z2d8,Z2db],[Z2d4 L rn rv out,Z2d5 L,Z2d6 nm hd bo,Z2d0 bd,Z2d9 x]⟩
theorem r47en (es:List AV) (he:decide ((0:Int)<((es.length:Nat):Int))=true) (hk:decide (x.k=1)=true) (hf:∃j,findA true (.str x.p) (rn.map AV.str) 0=some (some j)∧rv[j]? =some (.seq es false)):EN 119 (regOf Tryz.f47 65) (Z2de L rn rv out nm hd bd bo i x) (Z2dg L rn rv out nm hd bd bo i x):=by
 exact gE ⟨rfl,rfl⟩ 0 [.is true,.elt (.seq es false),.is true] [0,6,10,11,12,13,79] [K0 100000,K1 100001,K0 10,K1 45007,K1 13] (aC6 hk hf he (zshd3q L) (zsokbf bd) rT)
theorem r47fn:EN 119 (condOf Tryz.f47 79) (Z2df L rn rv out nm hd bd bo i x) (Z2de L rn rv out nm hd bd bo i x):=by
 exact gE ⟨rfl,rfl⟩ 0 [] [0,6,10,11,12,13] [K0 100000,K1 100001,K0 10,K1 45007,K1 13] (aC3 (zshd3q L) (zsokbf bd) rT)
theorem r47gn (hl:L.length<1000000) (hxp:x.p.size<1000000) (hts:x.ts.length<1000000) (hps:(patT x.ts []).size<1000000000000000000):EN 119 (condOf Tryz.f47 79) (Z2dg L rn rv out nm hd bd bo i x) ⟨[Z2d1,Z2d2,Z2d3,(11,.row 45007 0 (bd.map Li.av).length),Z2d7 i,Z2d8],[(100000,.var [.own 2 ((meetL L (x.p,patT x.ts [])).map adA),.map 100001,.tmap (rn.map AV.str) rv,.own 3 (out.map Ru.av)]),(100001,.map ((meetL L (x.p,patT x.ts [])).map adA) (ixs (meetL L (x.p,patT x.ts [])).length)),Z2d6 nm hd bo,Z2d0 bd,(13,.var (({x with p:=nameT x.p (patT x.ts [])}:Li)).cells)]⟩:=by
 have hs0:=k10c x.2 x.3 (by omega)
 have hs1:=k46p L x.2 (patT x.3 []) (List.map AV.str rn) (rv) (out) (by assumption) (by omega) (by assumption)
 exact gE ⟨rfl,rfl⟩ 0 [.call (.str (patT x.3 [])) [] [],.call (.str (nameT x.2 (patT x.3 []))) [100000,100001] [(100000,.var [.own 2 (List.map adA (meetL L (x.2,patT x.3 []))),.map 100001,.tmap (rn.map AV.str) rv,.own 3 (out.map Ru.av)]),(100001,.map (List.map adA (meetL L (x.2,patT x.3 []))) (ixs (List.length (meetL L (x.2,patT x.3 [])))))]] [0,6,10,11,12,13] [K0 100000,K1 100001,K0 10,K1 45007,K1 13] (aC5 hs0 hs1 (show noIdsL (List.map adA (meetL L (x.2,patT x.3 [])))=true∧noIdsL (ixs (List.length (meetL L (x.2,patT x.3 []))))=true from by simp) (zsokbf bd) rT)
abbrev Z2dc:Nat×Ob:=(143,.row 1 (ks.map AV.str))
abbrev Z2dh:St:=⟨[Z2d1,(6,.row 143 0 (ks.map AV.str).length),Z2d3,(11,.row 45007 0 (bd.map Li.av).length),Z2d7 i],[Z2d4 L rn rv out,Z2d5 L,Z2dc ks,Z2d6 nm hd bo,Z2d0 bd]⟩
theorem r47ar (k83:Sp 83 [.row 45007 0 (bd.map Li.av).length,.row 143 0 (ks.map AV.str).length] [Z2d0 bd,Z2dc ks] (.int .i64 (i:Int)) []):EN 119 (regOf Tryz.f47 57) ⟨[Z2d1,(6,.row 143 0 (ks.map AV.str).length),Z2d3,(11,.row 45007 0 (bd.map Li.av).length)],[Z2d4 L rn rv out,Z2d5 L,Z2dc ks,Z2d6 nm hd bo,Z2d0 bd]⟩ (Z2dh L rn rv out nm hd bd bo ks i):=by
 have hs0:=k83
 exact gE ⟨rfl,rfl⟩ 0 [.call (.int .i64 (i:Int)) [45007,143] []] [0,6,10,11,12] [K0 100000,K1 100001,K1 143,K0 10,K1 45007] (aC4 hs0 (zshd3q L) (zs2m9r ks) (zsokbf bd))
abbrev Z2di:St:=⟨[Z2d1,(6,.row 143 0 (ks.map AV.str).length),Z2d3,(11,.row 45007 0 (bd.map Li.av).length),Z2d7 i,Z2d8],[Z2d4 L rn rv out,Z2d5 L,Z2dc ks,Z2d6 nm hd bo,Z2d0 bd,Z2d9 x]⟩
theorem r47br (hx:(bd.map Li.av)[0+Int.toNat (i:Int)]? =some x.av) (hi:i<bd.length) (hB:x.terms.length<100000000):EN 119 (regOf Tryz.f47 60) (Z2dh L rn rv out nm hd bd bo ks i) (Z2di L rn rv out nm hd bd bo ks i x):=by
 have hs0:=k84p x (by assumption)
 exact gE ⟨rfl,rfl⟩ 0 [.elt (Li.av x),.call (.agg x.cells) [] []] [0,6,10,11,12,13] [K0 100000,K1 100001,K1 143,K0 10,K1 45007,K1 13] (aC7 (show 0≤(i:Int)∧(i:Int)<(↑(bd.map Li.av).length:Int) from by simp;omega) hx hs0 (zshd3q L) (zs2m9r ks) (zsokbf bd) rT)
abbrev Z2dj:St:=⟨[Z2d1,(6,.row 143 0 (ks.map AV.str).length),Z2d3,(11,.row 45007 0 (bd.map Li.av).length),Z2d7 i,Z2d8,Z2da],[Z2d4 L rn rv out,Z2d5 L,Z2dc ks,Z2d6 nm hd bo,Z2d0 bd,Z2d9 x]⟩
theorem r47cr (hk:decide (x.k=1)=false):EN 119 (regOf Tryz.f47 65) (Z2di L rn rv out nm hd bd bo ks i x) (Z2dj L rn rv out nm hd bd bo ks i x):=by
 exact gE ⟨rfl,rfl⟩ 0 [.is false] [0,6,10,11,12,13,79] [K0 100000,K1 100001,K1 143,K0 10,K1 45007,K1 13] (aC5 hk (zshd3q L) (zs2m9r ks) (zsokbf bd) rT)
theorem r47dr (hk:decide (x.k=1)=true) (hf:findA true (.str x.p) (rn.map AV.str) 0=some none):EN 119 (regOf Tryz.f47 65) (Z2di L rn rv out nm hd bd bo ks i x) (Z2dj L rn rv out nm hd bd bo ks i x):=by
 exact gE ⟨rfl,rfl⟩ 0 [.is true,.is false,.is false] [0,6,10,11,12,13,79] [K0 100000,K1 100001,K1 143,K0 10,K1 45007,K1 13] (aC7 hk hf rF (zshd3q L) (zs2m9r ks) (zsokbf bd) rT)
abbrev Z2dk:St:=⟨[Z2d1,(6,.row 143 0 (ks.map AV.str).length),Z2d3,(11,.row 45007 0 (bd.map Li.av).length),Z2d7 i,Z2d8,Z2db],[Z2d4 L rn rv out,Z2d5 L,Z2dc ks,Z2d6 nm hd bo,Z2d0 bd,Z2d9 x]⟩
theorem r47er (es:List AV) (he:decide ((0:Int)<((es.length:Nat):Int))=true) (hk:decide (x.k=1)=true) (hf:∃j,findA true (.str x.p) (rn.map AV.str) 0=some (some j)∧rv[j]? =some (.seq es false)):EN 119 (regOf Tryz.f47 65) (Z2di L rn rv out nm hd bd bo ks i x) (Z2dk L rn rv out nm hd bd bo ks i x):=by
 exact gE ⟨rfl,rfl⟩ 0 [.is true,.elt (.seq es false),.is true] [0,6,10,11,12,13,79] [K0 100000,K1 100001,K1 143,K0 10,K1 45007,K1 13] (aC7 hk hf he (zshd3q L) (zs2m9r ks) (zsokbf bd) rT)
theorem r47fr:EN 119 (condOf Tryz.f47 79) (Z2dj L rn rv out nm hd bd bo ks i x) (Z2di L rn rv out nm hd bd bo ks i x):=by
 exact gE ⟨rfl,rfl⟩ 0 [] [0,6,10,11,12,13] [K0 100000,K1 100001,K1 143,K0 10,K1 45007,K1 13] (aC4 (zshd3q L) (zs2m9r ks) (zsokbf bd) rT)
theorem r47gr (hks:ks.length<1000000) (i:Nat) (x:Li) (hl:L.length<1000000) (hxp:x.p.size<1000000) (hts:x.ts.length<1000000) (hps:(patT x.ts ks).size<1000000000000000000):EN 119 (condOf Tryz.f47 79) (Z2dk L rn rv out nm hd bd bo ks i x) ⟨[Z2d1,(6,.row 143 0 (ks.map AV.str).length),Z2d3,(11,.row 45007 0 (bd.map Li.av).length),Z2d7 i,Z2d8],[(100000,.var [.own 2 ((meetL L (x.p,patT x.ts ks)).map adA),.map 100001,.tmap (rn.map AV.str) rv,.own 3 (out.map Ru.av)]),(100001,.map ((meetL L (x.p,patT x.ts ks)).map adA) (ixs (meetL L (x.p,patT x.ts ks)).length)),Z2dc ks,Z2d6 nm hd bo,Z2d0 bd,(13,.var (({x with p:=nameT x.p (patT x.ts ks)}:Li)).cells)]⟩:=by
 have hs0:=k10b x.2 x.3 ks (by omega) (by omega)
 have hs1:=k46p L x.2 (patT x.3 ks) (List.map AV.str rn) (rv) (out) (by assumption) (by omega) (by assumption)
 exact gE ⟨rfl,rfl⟩ 0 [.call (.str (patT x.3 ks)) [143] [],.call (.str (nameT x.2 (patT x.3 ks))) [100000,100001] [(100000,.var [.own 2 (List.map adA (meetL L (x.2,patT x.3 ks))),.map 100001,.tmap (rn.map AV.str) rv,.own 3 (out.map Ru.av)]),(100001,.map (List.map adA (meetL L (x.2,patT x.3 ks))) (ixs (List.length (meetL L (x.2,patT x.3 ks)))))]] [0,6,10,11,12,13] [K0 100000,K1 100001,K1 143,K0 10,K1 45007,K1 13] (aC6 hs0 hs1 (show noIdsL (List.map adA (meetL L (x.2,patT x.3 ks)))=true∧noIdsL (ixs (List.length (meetL L (x.2,patT x.3 ks))))=true from by simp) (zs2m9r ks) (zsokbf bd) rT)
end
section
variable (L:List Ad) (rn:List ByteArray) (rv:List AV) (out:List Ru) (nm:ByteArray) (hd:List Ar) (bd bo:List Li) (ks:List ByteArray) (i:Nat) (x:Li)
theorem okE_strs (l:List ByteArray):∀e,e∈l.map AV.str→okE 1 e:=fun e he=>by
 obtain ⟨x,_,rfl⟩:=List.mem_map.1 he
 simp
theorem r47hnn (L:List Ad) (rn:List ByteArray) (rv:List AV) (out:List Ru) (nm:ByteArray) (hd:List Ar) (bd bo:List Li) (i:Nat) (x:Li):EN 119 (regOf Tryz.f47 94) ⟨[(0,.elt 100000 0 0),(6,.seq [] true),(10,.elt 10 0 0),(11,.row 45007 0 (bd.map Li.av).length),(12,.int .i64 (i:Int)),(13,.elt 13 0 0)],[(100000,.var [.own 2 (L.map adA),.map 100001,.tmap (rn.map AV.str) rv,.own 3 (out.map Ru.av)]),(100001,.map (L.map adA) (ixs L.length)),(10,.var [.str nm,.seq (hd.map Ar.av) false,.nils]),(45007,.row 16 (bd.map Li.av)),(13,.var x.cells)]⟩ ⟨[(0,.elt 100000 0 0),(6,.seq [] true),(10,.elt 10 0 0),(11,.row 45007 0 (bd.map Li.av).length),(12,.int .i64 (i:Int)),(13,.elt 13 0 0)],[(100000,.var [.own 2 (L.map adA),.map 100001,.tmap (rn.map AV.str) rv,.own 3 (out.map Ru.av)]),(100001,.map (L.map adA) (ixs L.length)),(10,.var [.str nm,.seq (hd.map Ar.av) false,.row 98 0 1]),(45007,.row 16 (bd.map Li.av)),(13,.var x.cells),(98,.row 16 [x.av])]⟩:=by
 exact gE ⟨rfl,rfl⟩ 0 [.is true] [0,6,10,11,12,13] [(100000,.keep 100000 false),(100001,.keep 100001 true),(10,.keep 10 false),(45007,.keep 45007 true),(13,.keep 13 true),(98,.keep 98 true)] (aC5 (show 1≤List.length [AV.agg [AV.int .i8 x.1,AV.str x.2,AV.seq (List.map Tm.av x.3) false,AV.int .i8 x.4,AV.int .i8 (Ex.op (Li.l x)),AV.str (Ex.t (Li.l x)).1,AV.int .i8 (Ex.t (Li.l x)).2,AV.int .i64 (Ex.t (Li.l x)).3,AV.str (Ex.t (Li.l x)).4,AV.seq (List.map Ex.av (Ex.kids (Li.l x))) false,AV.int .i8 (Ex.op (Li.r x)),AV.str (Ex.t (Li.r x)).1,AV.int .i8 (Ex.t (Li.r x)).2,AV.int .i64 (Ex.t (Li.r x)).3,AV.str (Ex.t (Li.r x)).4,AV.seq (List.map Ex.av (Ex.kids (Li.r x))) false]]∧[AV.agg [AV.int .i8 x.1,AV.str x.2,AV.seq (List.map Tm.av x.3) false,AV.int .i8 x.4,AV.int .i8 (Ex.op (Li.l x)),AV.str (Ex.t (Li.l x)).1,AV.int .i8 (Ex.t (Li.l x)).2,AV.int .i64 (Ex.t (Li.l x)).3,AV.str (Ex.t (Li.l x)).4,AV.seq (List.map Ex.av (Ex.kids (Li.l x))) false,AV.int .i8 (Ex.op (Li.r x)),AV.str (Ex.t (Li.r x)).1,AV.int .i8 (Ex.t (Li.r x)).2,AV.int .i64 (Ex.t (Li.r x)).3,AV.str (Ex.t (Li.r x)).4,AV.seq (List.map Ex.av (Ex.kids (Li.r x))) false]]≠[]∧(∀(e:AV),e∈[AV.agg [AV.int .i8 x.1,AV.str x.2,AV.seq (List.map Tm.av x.3) false,AV.int .i8 x.4,AV.int .i8 (Ex.op (Li.l x)),AV.str (Ex.t (Li.l x)).1,AV.int .i8 (Ex.t (Li.l x)).2,AV.int .i64 (Ex.t (Li.l x)).3,AV.str (Ex.t (Li.l x)).4,AV.seq (List.map Ex.av (Ex.kids (Li.l x))) false,AV.int .i8 (Ex.op (Li.r x)),AV.str (Ex.t (Li.r x)).1,AV.int .i8 (Ex.t (Li.r x)).2,AV.int .i64 (Ex.t (Li.r x)).3,AV.str (Ex.t (Li.r x)).4,AV.seq (List.map Ex.av (Ex.kids (Li.r x))) false]]→okE 16 e)∧(∀(e:AV),e∈[]→okE 16 e)∧(↑(0+List.length [AV.agg [AV.int .i8 x.1,AV.str x.2,AV.seq (List.map Tm.av x.3) false,AV.int .i8 x.4,AV.int .i8 (Ex.op (Li.l x)),AV.str (Ex.t (Li.l x)).1,AV.int .i8 (Ex.t (Li.l x)).2,AV.int .i64 (Ex.t (Li.l x)).3,AV.str (Ex.t (Li.l x)).4,AV.seq (List.map Ex.av (Ex.kids (Li.l x))) false,AV.int .i8 (Ex.op (Li.r x)),AV.str (Ex.t (Li.r x)).1,AV.int .i8 (Ex.t (Li.r x)).2,AV.int .i64 (Ex.t (Li.r x)).3,AV.str (Ex.t (Li.r x)).4,AV.seq (List.map Ex.av (Ex.kids (Li.r x))) false]]):Int)*216≤140737488355328∧0+List.length [AV.agg [AV.int .i8 x.1,AV.str x.2,AV.seq (List.map Tm.av x.3) false,AV.int .i8 x.4,AV.int .i8 (Ex.op (Li.l x)),AV.str (Ex.t (Li.l x)).1,AV.int .i8 (Ex.t (Li.l x)).2,AV.int .i64 (Ex.t (Li.l x)).3,AV.str (Ex.t (Li.l x)).4,AV.seq (List.map Ex.av (Ex.kids (Li.l x))) false,AV.int .i8 (Ex.op (Li.r x)),AV.str (Ex.t (Li.r x)).1,AV.int .i8 (Ex.t (Li.r x)).2,AV.int .i64 (Ex.t (Li.r x)).3,AV.str (Ex.t (Li.r x)).4,AV.seq (List.map Ex.av (Ex.kids (Li.r x))) false]]≤9223372036854775807 from by simp) (show noIdsL (L.map adA)=true∧noIdsL (ixs L.length)=true from by simp) (show noIdsL (bd.map Li.av)=true from by simp) rT rT)
theorem r47hnr (L:List Ad) (rn:List ByteArray) (rv:List AV) (out:List Ru) (nm:ByteArray) (hd:List Ar) (bd bo:List Li) (i:Nat) (x:Li) (hok:∀e,e∈bo.map Li.av→okE 16 e) (hbl:bo.length<1000000):EN 119 (regOf Tryz.f47 94) ⟨[(0,.elt 100000 0 0),(6,.seq [] true),(10,.elt 10 0 0),(11,.row 45007 0 (bd.map Li.av).length),(12,.int .i64 (i:Int)),(13,.elt 13 0 0)],[(100000,.var [.own 2 (L.map adA),.map 100001,.tmap (rn.map AV.str) rv,.own 3 (out.map Ru.av)]),(100001,.map (L.map adA) (ixs L.length)),(10,.var [.str nm,.seq (hd.map Ar.av) false,.row 298 0 (bo.map Li.av).length]),(45007,.row 16 (bd.map Li.av)),(13,.var x.cells),(298,.row 16 (bo.map Li.av))]⟩ ⟨[(0,.elt 100000 0 0),(6,.seq [] true),(10,.elt 10 0 0),(11,.row 45007 0 (bd.map Li.av).length),(12,.int .i64 (i:Int)),(13,.elt 13 0 0)],[(100000,.var [.own 2 (L.map adA),.map 100001,.tmap (rn.map AV.str) rv,.own 3 (out.map Ru.av)]),(100001,.map (L.map adA) (ixs L.length)),(10,.var [.str nm,.seq (hd.map Ar.av) false,.row 98 0 ((bo.map Li.av).length+1)]),(45007,.row 16 (bd.map Li.av)),(13,.var x.cells),(98,.row 16 (bo.map Li.av++[x.av]))]⟩:=by
 exact gE ⟨rfl,rfl⟩ 0 [.is true] [0,6,10,11,12,13] [(100000,.keep 100000 false),(100001,.keep 100001 true),(10,.keep 10 false),(45007,.keep 45007 true),(13,.keep 13 true),(98,.keep 98 true)] (aC5 (show (1:Nat)≤List.length [AV.agg [AV.int .i8 x.1,AV.str x.2,AV.seq (List.map Tm.av x.3) false,AV.int .i8 x.4,AV.int .i8 (Ex.op (Li.l x)),AV.str (Ex.t (Li.l x)).1,AV.int .i8 (Ex.t (Li.l x)).2,AV.int .i64 (Ex.t (Li.l x)).3,AV.str (Ex.t (Li.l x)).4,AV.seq (List.map Ex.av (Ex.kids (Li.l x))) false,AV.int .i8 (Ex.op (Li.r x)),AV.str (Ex.t (Li.r x)).1,AV.int .i8 (Ex.t (Li.r x)).2,AV.int .i64 (Ex.t (Li.r x)).3,AV.str (Ex.t (Li.r x)).4,AV.seq (List.map Ex.av (Ex.kids (Li.r x))) false]]∧(0:Nat)=(0:Nat)∧List.length (bo.map Li.av)=List.length (bo.map Li.av)∧(∀(e:AV),e∈[AV.agg [AV.int .i8 x.1,AV.str x.2,AV.seq (List.map Tm.av x.3) false,AV.int .i8 x.4,AV.int .i8 (Ex.op (Li.l x)),AV.str (Ex.t (Li.l x)).1,AV.int .i8 (Ex.t (Li.l x)).2,AV.int .i64 (Ex.t (Li.l x)).3,AV.str (Ex.t (Li.l x)).4,AV.seq (List.map Ex.av (Ex.kids (Li.l x))) false,AV.int .i8 (Ex.op (Li.r x)),AV.str (Ex.t (Li.r x)).1,AV.int .i8 (Ex.t (Li.r x)).2,AV.int .i64 (Ex.t (Li.r x)).3,AV.str (Ex.t (Li.r x)).4,AV.seq (List.map Ex.av (Ex.kids (Li.r x))) false]]→okE (16:Nat) e)∧(∀(e:AV),e∈List.map Li.av bo→okE (16:Nat) e)∧(↑(List.length (bo.map Li.av)+List.length [AV.agg [AV.int .i8 x.1,AV.str x.2,AV.seq (List.map Tm.av x.3) false,AV.int .i8 x.4,AV.int .i8 (Ex.op (Li.l x)),AV.str (Ex.t (Li.l x)).1,AV.int .i8 (Ex.t (Li.l x)).2,AV.int .i64 (Ex.t (Li.l x)).3,AV.str (Ex.t (Li.l x)).4,AV.seq (List.map Ex.av (Ex.kids (Li.l x))) false,AV.int .i8 (Ex.op (Li.r x)),AV.str (Ex.t (Li.r x)).1,AV.int .i8 (Ex.t (Li.r x)).2,AV.int .i64 (Ex.t (Li.r x)).3,AV.str (Ex.t (Li.r x)).4,AV.seq (List.map Ex.av (Ex.kids (Li.r x))) false]]):Int)*(216:Int)≤(140737488355328:Int)∧List.length (bo.map Li.av)+List.length [AV.agg [AV.int .i8 x.1,AV.str x.2,AV.seq (List.map Tm.av x.3) false,AV.int .i8 x.4,AV.int .i8 (Ex.op (Li.l x)),AV.str (Ex.t (Li.l x)).1,AV.int .i8 (Ex.t (Li.l x)).2,AV.int .i64 (Ex.t (Li.l x)).3,AV.str (Ex.t (Li.l x)).4,AV.seq (List.map Ex.av (Ex.kids (Li.l x))) false,AV.int .i8 (Ex.op (Li.r x)),AV.str (Ex.t (Li.r x)).1,AV.int .i8 (Ex.t (Li.r x)).2,AV.int .i64 (Ex.t (Li.r x)).3,AV.str (Ex.t (Li.r x)).4,AV.seq (List.map Ex.av (Ex.kids (Li.r x))) false]]≤(9223372036854775807:Nat) from by simp;omega) (show noIdsL (L.map adA)=true∧noIdsL (ixs L.length)=true from by simp) (show noIdsL (bd.map Li.av)=true from by simp) rT (show noIdsL (List.map Li.av bo++[AV.agg [AV.int .i8 x.1,AV.str x.2,AV.seq (List.map Tm.av x.3) false,AV.int .i8 x.4,AV.int .i8 (Ex.op (Li.l x)),AV.str (Ex.t (Li.l x)).1,AV.int .i8 (Ex.t (Li.l x)).2,AV.int .i64 (Ex.t (Li.l x)).3,AV.str (Ex.t (Li.l x)).4,AV.seq (List.map Ex.av (Ex.kids (Li.l x))) false,AV.int .i8 (Ex.op (Li.r x)),AV.str (Ex.t (Li.r x)).1,AV.int .i8 (Ex.t (Li.r x)).2,AV.int .i64 (Ex.t (Li.r x)).3,AV.str (Ex.t (Li.r x)).4,AV.seq (List.map Ex.av (Ex.kids (Li.r x))) false]])=true from by simp))
abbrev Z2e0:Nat×AV:=(0,.elt 100000 0 0)
abbrev Z2e1:Nat×AV:=(6,.seq [] true)
abbrev Z2e2:Nat×AV:=(10,.elt 10 0 0)
abbrev Z2e3:Nat×AV:=(12,.int .i64 (i:Int))
abbrev Z2e4:Nat×AV:=(13,.elt 13 0 0)
abbrev Z2e5:Nat×Ob:=(100000,.var [.own 2 (L.map adA),.map 100001,.tmap (rn.map AV.str) rv,.own 3 (out.map Ru.av)])
abbrev Z2e6:Nat×Ob:=(100001,.map (L.map adA) (ixs L.length))
abbrev Z2e7:Nat×Ob:=(10,.var [.str nm,.seq (hd.map Ar.av) false,.own 16 (bo.map Li.av)])
abbrev Z2e8:Nat×Ob:=(45007,.row 16 (bd.map Li.av))
abbrev Z2e9:Nat×Ob:=(13,.var x.cells)
abbrev Z2ee:St:=⟨[Z2e0,Z2e1,Z2e2,(11,.row 45007 0 (bd.map Li.av).length),Z2e3 i,Z2e4],[Z2e5 L rn rv out,Z2e6 L,Z2e7 nm hd bo,Z2e8 bd,Z2e9 x]⟩
theorem r47in (k52:Sp 52 [x.av] [] (.seq ((varsOf x.terms).map AV.str) false) []) (hv:(varsOf x.terms).map AV.str=[]):EN 119 (regOf Tryz.f47 100) (Z2ee L rn rv out nm hd bd bo i x) (Z2ee L rn rv out nm hd bd bo i x):=by
 exact gE ⟨rfl,rfl⟩ 0 [.call (.seq (List.map AV.str (varsOf (Li.terms x))) false) [] [],.is false] [0,6,10,11,12,13] [K0 100000,K1 100001,K0 10,K1 45007,K1 13] (aC5 k52 (show True∧List.map AV.str (varsOf (Li.terms x))=[] from by simp at*;omega) (zshd3q L) (zsokbf bd) rT)
theorem zsof3d (x:Li):noIdsL ([]++List.map AV.str (varsOf (Li.terms x)))=true:=by simp
theorem r47jn (k52:Sp 52 [x.av] [] (.seq ((varsOf x.terms).map AV.str) false) []) (hc:True∧(varsOf x.terms).map AV.str≠[]∧(∀e,e∈(varsOf x.terms).map AV.str→okE 1 e)∧(∀e,e∈([]:List AV)→okE 1 e)∧((List.length ([]:List AV)+((varsOf x.terms).map AV.str).length:Nat):Int)*16≤140737488355328∧List.length ([]:List AV)+((varsOf x.terms).map AV.str).length≤9223372036854775807):EN 119 (regOf Tryz.f47 100) (Z2ee L rn rv out nm hd bd bo i x) ⟨[Z2e0,(6,.row 143 0 (List.length ([]:List AV)+((varsOf x.terms).map AV.str).length)),Z2e2,(11,.row 45007 0 (bd.map Li.av).length),Z2e3 i,Z2e4],[Z2e5 L rn rv out,Z2e6 L,(143,.row 1 ([]++(varsOf x.terms).map AV.str)),Z2e7 nm hd bo,Z2e8 bd,Z2e9 x]⟩:=by
 exact gE ⟨rfl,rfl⟩ 0 [.call (.seq (List.map AV.str (varsOf (Li.terms x))) false) [] [],.is true] [0,6,10,11,12,13] [K0 100000,K1 100001,(103,.keep 143 true),K0 10,K1 45007,K1 13] (aC6 k52 hc (zshd3q L) (zsof3d x) (zsokbf bd) rT)
theorem zseali (bd:List Li) (i:Nat):noIdsL (List.map Li.av (List.eraseIdx bd i))=true:=by simp
abbrev Z2ea:Nat×Ob:=(45007,.row 16 ((bd.eraseIdx i).map Li.av))
abbrev Z2eb:Nat×Ob:=(45007,.row 16 (List.map Li.av (List.eraseIdx bd i)))
theorem r47kn (hi:i<bd.length) (hsm:bd.length≤1000):EN 119 (regOf Tryz.f47 104) (Z2ee L rn rv out nm hd bd bo i x) ⟨[Z2e0,Z2e1,Z2e2,(11,.row 45007 0 ((bd.eraseIdx i).map Li.av).length)],[Z2e5 L rn rv out,Z2e6 L,Z2e7 nm hd bo,Z2ea bd i]⟩:=by
 have hs0:=k85 bd i (by assumption) (by assumption)
 exact gE ⟨rfl,rfl⟩ 0 [.call (.row 45007 0 (List.length (List.map Li.av (List.eraseIdx bd i)))) [45007] [Z2eb bd i]] [0,6,10,11] [K0 100000,K1 100001,K0 10,K1 45007] (aC4 (w1 i (by omega)) hs0 (zshd3q L) (zseali bd i))
theorem r47hrn (L:List Ad) (rn:List ByteArray) (rv:List AV) (out:List Ru) (nm:ByteArray) (hd:List Ar) (bd bo:List Li) (ks:List ByteArray) (i:Nat) (x:Li):EN 119 (regOf Tryz.f47 94) ⟨[(0,.elt 100000 0 0),(6,.row 143 0 (ks.map AV.str).length),(10,.elt 10 0 0),(11,.row 45007 0 (bd.map Li.av).length),(12,.int .i64 (i:Int)),(13,.elt 13 0 0)],[(100000,.var [.own 2 (L.map adA),.map 100001,.tmap (rn.map AV.str) rv,.own 3 (out.map Ru.av)]),(100001,.map (L.map adA) (ixs L.length)),(143,.row 1 (ks.map .str)),(10,.var [.str nm,.seq (hd.map Ar.av) false,.nils]),(45007,.row 16 (bd.map Li.av)),(13,.var x.cells)]⟩ ⟨[(0,.elt 100000 0 0),(6,.row 143 0 (ks.map AV.str).length),(10,.elt 10 0 0),(11,.row 45007 0 (bd.map Li.av).length),(12,.int .i64 (i:Int)),(13,.elt 13 0 0)],[(100000,.var [.own 2 (L.map adA),.map 100001,.tmap (rn.map AV.str) rv,.own 3 (out.map Ru.av)]),(100001,.map (L.map adA) (ixs L.length)),(143,.row 1 (ks.map .str)),(10,.var [.str nm,.seq (hd.map Ar.av) false,.row 98 0 1]),(45007,.row 16 (bd.map Li.av)),(13,.var x.cells),(98,.row 16 [x.av])]⟩:=by
 exact gE ⟨rfl,rfl⟩ 0 [.is true] [0,6,10,11,12,13] [(100000,.keep 100000 false),(100001,.keep 100001 true),(143,.keep 143 true),(10,.keep 10 false),(45007,.keep 45007 true),(13,.keep 13 true),(98,.keep 98 true)] (aC6 (show 1≤List.length [AV.agg [AV.int .i8 x.1,AV.str x.2,AV.seq (List.map Tm.av x.3) false,AV.int .i8 x.4,AV.int .i8 (Ex.op (Li.l x)),AV.str (Ex.t (Li.l x)).1,AV.int .i8 (Ex.t (Li.l x)).2,AV.int .i64 (Ex.t (Li.l x)).3,AV.str (Ex.t (Li.l x)).4,AV.seq (List.map Ex.av (Ex.kids (Li.l x))) false,AV.int .i8 (Ex.op (Li.r x)),AV.str (Ex.t (Li.r x)).1,AV.int .i8 (Ex.t (Li.r x)).2,AV.int .i64 (Ex.t (Li.r x)).3,AV.str (Ex.t (Li.r x)).4,AV.seq (List.map Ex.av (Ex.kids (Li.r x))) false]]∧[AV.agg [AV.int .i8 x.1,AV.str x.2,AV.seq (List.map Tm.av x.3) false,AV.int .i8 x.4,AV.int .i8 (Ex.op (Li.l x)),AV.str (Ex.t (Li.l x)).1,AV.int .i8 (Ex.t (Li.l x)).2,AV.int .i64 (Ex.t (Li.l x)).3,AV.str (Ex.t (Li.l x)).4,AV.seq (List.map Ex.av (Ex.kids (Li.l x))) false,AV.int .i8 (Ex.op (Li.r x)),AV.str (Ex.t (Li.r x)).1,AV.int .i8 (Ex.t (Li.r x)).2,AV.int .i64 (Ex.t (Li.r x)).3,AV.str (Ex.t (Li.r x)).4,AV.seq (List.map Ex.av (Ex.kids (Li.r x))) false]]≠[]∧(∀(e:AV),e∈[AV.agg [AV.int .i8 x.1,AV.str x.2,AV.seq (List.map Tm.av x.3) false,AV.int .i8 x.4,AV.int .i8 (Ex.op (Li.l x)),AV.str (Ex.t (Li.l x)).1,AV.int .i8 (Ex.t (Li.l x)).2,AV.int .i64 (Ex.t (Li.l x)).3,AV.str (Ex.t (Li.l x)).4,AV.seq (List.map Ex.av (Ex.kids (Li.l x))) false,AV.int .i8 (Ex.op (Li.r x)),AV.str (Ex.t (Li.r x)).1,AV.int .i8 (Ex.t (Li.r x)).2,AV.int .i64 (Ex.t (Li.r x)).3,AV.str (Ex.t (Li.r x)).4,AV.seq (List.map Ex.av (Ex.kids (Li.r x))) false]]→okE 16 e)∧(∀(e:AV),e∈[]→okE 16 e)∧(↑(0+List.length [AV.agg [AV.int .i8 x.1,AV.str x.2,AV.seq (List.map Tm.av x.3) false,AV.int .i8 x.4,AV.int .i8 (Ex.op (Li.l x)),AV.str (Ex.t (Li.l x)).1,AV.int .i8 (Ex.t (Li.l x)).2,AV.int .i64 (Ex.t (Li.l x)).3,AV.str (Ex.t (Li.l x)).4,AV.seq (List.map Ex.av (Ex.kids (Li.l x))) false,AV.int .i8 (Ex.op (Li.r x)),AV.str (Ex.t (Li.r x)).1,AV.int .i8 (Ex.t (Li.r x)).2,AV.int .i64 (Ex.t (Li.r x)).3,AV.str (Ex.t (Li.r x)).4,AV.seq (List.map Ex.av (Ex.kids (Li.r x))) false]]):Int)*216≤140737488355328∧0+List.length [AV.agg [AV.int .i8 x.1,AV.str x.2,AV.seq (List.map Tm.av x.3) false,AV.int .i8 x.4,AV.int .i8 (Ex.op (Li.l x)),AV.str (Ex.t (Li.l x)).1,AV.int .i8 (Ex.t (Li.l x)).2,AV.int .i64 (Ex.t (Li.l x)).3,AV.str (Ex.t (Li.l x)).4,AV.seq (List.map Ex.av (Ex.kids (Li.l x))) false,AV.int .i8 (Ex.op (Li.r x)),AV.str (Ex.t (Li.r x)).1,AV.int .i8 (Ex.t (Li.r x)).2,AV.int .i64 (Ex.t (Li.r x)).3,AV.str (Ex.t (Li.r x)).4,AV.seq (List.map Ex.av (Ex.kids (Li.r x))) false]]≤9223372036854775807 from by simp) (show noIdsL (L.map adA)=true∧noIdsL (ixs L.length)=true from by simp) (show noIdsL (ks.map AV.str)=true from by simp) (show noIdsL (bd.map Li.av)=true from by simp) rT rT)
theorem r47hrr (L:List Ad) (rn:List ByteArray) (rv:List AV) (out:List Ru) (nm:ByteArray) (hd:List Ar) (bd bo:List Li) (ks:List ByteArray) (i:Nat) (x:Li) (hok:∀e,e∈bo.map Li.av→okE 16 e) (hbl:bo.length<1000000):EN 119 (regOf Tryz.f47 94) ⟨[(0,.elt 100000 0 0),(6,.row 143 0 (ks.map AV.str).length),(10,.elt 10 0 0),(11,.row 45007 0 (bd.map Li.av).length),(12,.int .i64 (i:Int)),(13,.elt 13 0 0)],[(100000,.var [.own 2 (L.map adA),.map 100001,.tmap (rn.map AV.str) rv,.own 3 (out.map Ru.av)]),(100001,.map (L.map adA) (ixs L.length)),(143,.row 1 (ks.map .str)),(10,.var [.str nm,.seq (hd.map Ar.av) false,.row 298 0 (bo.map Li.av).length]),(45007,.row 16 (bd.map Li.av)),(13,.var x.cells),(298,.row 16 (bo.map Li.av))]⟩ ⟨[(0,.elt 100000 0 0),(6,.row 143 0 (ks.map AV.str).length),(10,.elt 10 0 0),(11,.row 45007 0 (bd.map Li.av).length),(12,.int .i64 (i:Int)),(13,.elt 13 0 0)],[(100000,.var [.own 2 (L.map adA),.map 100001,.tmap (rn.map AV.str) rv,.own 3 (out.map Ru.av)]),(100001,.map (L.map adA) (ixs L.length)),(143,.row 1 (ks.map .str)),(10,.var [.str nm,.seq (hd.map Ar.av) false,.row 98 0 ((bo.map Li.av).length+1)]),(45007,.row 16 (bd.map Li.av)),(13,.var x.cells),(98,.row 16 (bo.map Li.av++[x.av]))]⟩:=by
 exact gE ⟨rfl,rfl⟩ 0 [.is true] [0,6,10,11,12,13] [(100000,.keep 100000 false),(100001,.keep 100001 true),(143,.keep 143 true),(10,.keep 10 false),(45007,.keep 45007 true),(13,.keep 13 true),(98,.keep 98 true)] (aC6 (show (1:Nat)≤List.length [AV.agg [AV.int .i8 x.1,AV.str x.2,AV.seq (List.map Tm.av x.3) false,AV.int .i8 x.4,AV.int .i8 (Ex.op (Li.l x)),AV.str (Ex.t (Li.l x)).1,AV.int .i8 (Ex.t (Li.l x)).2,AV.int .i64 (Ex.t (Li.l x)).3,AV.str (Ex.t (Li.l x)).4,AV.seq (List.map Ex.av (Ex.kids (Li.l x))) false,AV.int .i8 (Ex.op (Li.r x)),AV.str (Ex.t (Li.r x)).1,AV.int .i8 (Ex.t (Li.r x)).2,AV.int .i64 (Ex.t (Li.r x)).3,AV.str (Ex.t (Li.r x)).4,AV.seq (List.map Ex.av (Ex.kids (Li.r x))) false]]∧(0:Nat)=(0:Nat)∧List.length (bo.map Li.av)=List.length (bo.map Li.av)∧(∀(e:AV),e∈[AV.agg [AV.int .i8 x.1,AV.str x.2,AV.seq (List.map Tm.av x.3) false,AV.int .i8 x.4,AV.int .i8 (Ex.op (Li.l x)),AV.str (Ex.t (Li.l x)).1,AV.int .i8 (Ex.t (Li.l x)).2,AV.int .i64 (Ex.t (Li.l x)).3,AV.str (Ex.t (Li.l x)).4,AV.seq (List.map Ex.av (Ex.kids (Li.l x))) false,AV.int .i8 (Ex.op (Li.r x)),AV.str (Ex.t (Li.r x)).1,AV.int .i8 (Ex.t (Li.r x)).2,AV.int .i64 (Ex.t (Li.r x)).3,AV.str (Ex.t (Li.r x)).4,AV.seq (List.map Ex.av (Ex.kids (Li.r x))) false]]→okE (16:Nat) e)∧(∀(e:AV),e∈List.map Li.av bo→okE (16:Nat) e)∧(↑(List.length (bo.map Li.av)+List.length [AV.agg [AV.int .i8 x.1,AV.str x.2,AV.seq (List.map Tm.av x.3) false,AV.int .i8 x.4,AV.int .i8 (Ex.op (Li.l x)),AV.str (Ex.t (Li.l x)).1,AV.int .i8 (Ex.t (Li.l x)).2,AV.int .i64 (Ex.t (Li.l x)).3,AV.str (Ex.t (Li.l x)).4,AV.seq (List.map Ex.av (Ex.kids (Li.l x))) false,AV.int .i8 (Ex.op (Li.r x)),AV.str (Ex.t (Li.r x)).1,AV.int .i8 (Ex.t (Li.r x)).2,AV.int .i64 (Ex.t (Li.r x)).3,AV.str (Ex.t (Li.r x)).4,AV.seq (List.map Ex.av (Ex.kids (Li.r x))) false]]):Int)*(216:Int)≤(140737488355328:Int)∧List.length (bo.map Li.av)+List.length [AV.agg [AV.int .i8 x.1,AV.str x.2,AV.seq (List.map Tm.av x.3) false,AV.int .i8 x.4,AV.int .i8 (Ex.op (Li.l x)),AV.str (Ex.t (Li.l x)).1,AV.int .i8 (Ex.t (Li.l x)).2,AV.int .i64 (Ex.t (Li.l x)).3,AV.str (Ex.t (Li.l x)).4,AV.seq (List.map Ex.av (Ex.kids (Li.l x))) false,AV.int .i8 (Ex.op (Li.r x)),AV.str (Ex.t (Li.r x)).1,AV.int .i8 (Ex.t (Li.r x)).2,AV.int .i64 (Ex.t (Li.r x)).3,AV.str (Ex.t (Li.r x)).4,AV.seq (List.map Ex.av (Ex.kids (Li.r x))) false]]≤(9223372036854775807:Nat) from by simp;omega) (show noIdsL (L.map adA)=true∧noIdsL (ixs L.length)=true from by simp) (show noIdsL (ks.map AV.str)=true from by simp) (show noIdsL (bd.map Li.av)=true from by simp) rT (show noIdsL (List.map Li.av bo++[AV.agg [AV.int .i8 x.1,AV.str x.2,AV.seq (List.map Tm.av x.3) false,AV.int .i8 x.4,AV.int .i8 (Ex.op (Li.l x)),AV.str (Ex.t (Li.l x)).1,AV.int .i8 (Ex.t (Li.l x)).2,AV.int .i64 (Ex.t (Li.l x)).3,AV.str (Ex.t (Li.l x)).4,AV.seq (List.map Ex.av (Ex.kids (Li.l x))) false,AV.int .i8 (Ex.op (Li.r x)),AV.str (Ex.t (Li.r x)).1,AV.int .i8 (Ex.t (Li.r x)).2,AV.int .i64 (Ex.t (Li.r x)).3,AV.str (Ex.t (Li.r x)).4,AV.seq (List.map Ex.av (Ex.kids (Li.r x))) false]])=true from by simp))
abbrev Z2ec:Nat×Ob:=(143,.row 1 (ks.map AV.str))
abbrev Z2ef:St:=⟨[Z2e0,(6,.row 143 0 (ks.map AV.str).length),Z2e2,(11,.row 45007 0 (bd.map Li.av).length),Z2e3 i,Z2e4],[Z2e5 L rn rv out,Z2e6 L,Z2ec ks,Z2e7 nm hd bo,Z2e8 bd,Z2e9 x]⟩
theorem r47ir (k52:Sp 52 [x.av] [] (.seq ((varsOf x.terms).map AV.str) false) []) (hv:(varsOf x.terms).map AV.str=[]):EN 119 (regOf Tryz.f47 100) (Z2ef L rn rv out nm hd bd bo ks i x) (Z2ef L rn rv out nm hd bd bo ks i x):=by
 exact gE ⟨rfl,rfl⟩ 0 [.call (.seq (List.map AV.str (varsOf (Li.terms x))) false) [] [],.is false] [0,6,10,11,12,13] [K0 100000,K1 100001,K1 143,K0 10,K1 45007,K1 13] (aC6 k52 (show True∧List.map AV.str (varsOf (Li.terms x))=[] from by simp at*;omega) (zshd3q L) (zs2m9r ks) (zsokbf bd) rT)
theorem zsm4au (ks:List ByteArray) (x:Li):noIdsL (List.map AV.str ks++List.map AV.str (varsOf (Li.terms x)))=true:=by simp
theorem r47jr (k52:Sp 52 [x.av] [] (.seq ((varsOf x.terms).map AV.str) false) []) (hc:True∧(0:Nat)=0∧(ks.map AV.str).length=(ks.map AV.str).length∧(∀e,e∈(varsOf x.terms).map AV.str→okE 1 e)∧(∀e,e∈ks.map AV.str→okE 1 e)∧(((ks.map AV.str).length+((varsOf x.terms).map AV.str).length:Nat):Int)*16≤140737488355328∧(ks.map AV.str).length+((varsOf x.terms).map AV.str).length≤9223372036854775807):EN 119 (regOf Tryz.f47 100) (Z2ef L rn rv out nm hd bd bo ks i x) ⟨[Z2e0,(6,.row 143 0 ((ks.map AV.str).length+((varsOf x.terms).map AV.str).length)),Z2e2,(11,.row 45007 0 (bd.map Li.av).length),Z2e3 i,Z2e4],[Z2e5 L rn rv out,Z2e6 L,(143,.row 1 (ks.map AV.str++(varsOf x.terms).map AV.str)),Z2e7 nm hd bo,Z2e8 bd,Z2e9 x]⟩:=by
 exact gE ⟨rfl,rfl⟩ 0 [.call (.seq (List.map AV.str (varsOf (Li.terms x))) false) [] [],.is true] [0,6,10,11,12,13] [K0 100000,K1 100001,(103,.keep 143 true),K0 10,K1 45007,K1 13] (aC6 k52 hc (zshd3q L) (zsm4au ks x) (zsokbf bd) rT)
theorem r47kr (hi:i<bd.length) (hsm:bd.length≤1000):EN 119 (regOf Tryz.f47 104) (Z2ef L rn rv out nm hd bd bo ks i x) ⟨[Z2e0,(6,.row 143 0 (ks.map AV.str).length),Z2e2,(11,.row 45007 0 ((bd.eraseIdx i).map Li.av).length)],[Z2e5 L rn rv out,Z2e6 L,Z2ec ks,Z2e7 nm hd bo,Z2ea bd i]⟩:=by
 have hs0:=k85 bd i (by assumption) (by assumption)
 exact gE ⟨rfl,rfl⟩ 0 [.call (.row 45007 0 (List.length (List.map Li.av (List.eraseIdx bd i)))) [45007] [Z2eb bd i]] [0,6,10,11] [K0 100000,K1 100001,K1 143,K0 10,K1 45007] (aC5 (w1 i (by omega)) hs0 (zshd3q L) (zs2m9r ks) (zseali bd i))
abbrev Z2eg:St:=⟨[Z2e0,Z2e1,Z2e2,(11,.row 45007 0 (bd.map Li.av).length)],[Z2e5 L rn rv out,Z2e6 L,Z2e7 nm hd bo,Z2e8 bd]⟩
theorem h47n (hne:0<bd.length):EN 119 (fstC (loopOf Tryz.f47 1)) (Z2eg L rn rv out nm hd bd bo) (Z2eg L rn rv out nm hd bd bo):=by
 exact gE ⟨rfl,rfl⟩ 0 [.is true] [0,6,10,11] [K0 100000,K1 100001,K0 10,K1 45007] (aC3 (show decide (0<(↑(bd.map Li.av).length:Int))=true from by simp;omega) (zshd3q L) (zsokbf bd))
abbrev Z2ed:Nat×Ob:=(45007,.row 16 (([]:List Li).map Li.av))
theorem z47n (bd bo:List Li):En 119 (loopOf Tryz.f47 1) ⟨[Z2e0,Z2e1,Z2e2,(11,.row 45007 0 (([]:List Li).map Li.av).length)],[Z2e5 L rn rv out,Z2e6 L,Z2e7 nm hd bo,Z2ed]⟩ (fun e t=>e= .exit 2∧t=⟨[Z2e0,Z2e2],[Z2e5 L rn rv out,Z2e6 L,Z2e7 nm hd bo]⟩):=by
 exact gE ⟨rfl,rfl⟩ 0 [.is false] [0,10] [K0 100000,K1 100001,K0 10] (aC2 rF (zshd3q L))
abbrev Z2eh:St:=⟨[Z2e0,(6,.row 143 0 (ks.map AV.str).length),Z2e2,(11,.row 45007 0 (bd.map Li.av).length)],[Z2e5 L rn rv out,Z2e6 L,Z2ec ks,Z2e7 nm hd bo,Z2e8 bd]⟩
theorem h47r (hne:0<bd.length):EN 119 (fstC (loopOf Tryz.f47 1)) (Z2eh L rn rv out nm hd bd bo ks) (Z2eh L rn rv out nm hd bd bo ks):=by
 exact gE ⟨rfl,rfl⟩ 0 [.is true] [0,6,10,11] [K0 100000,K1 100001,K1 143,K0 10,K1 45007] (aC4 (show decide (0<(↑(bd.map Li.av).length:Int))=true from by simp;omega) (zshd3q L) (zs2m9r ks) (zsokbf bd))
theorem z47r (bd bo:List Li) (ks:List ByteArray):En 119 (loopOf Tryz.f47 1) ⟨[Z2e0,(6,.row 143 0 (ks.map AV.str).length),Z2e2,(11,.row 45007 0 (([]:List Li).map Li.av).length)],[Z2e5 L rn rv out,Z2e6 L,Z2ec ks,Z2e7 nm hd bo,Z2ed]⟩ (fun e t=>e= .exit 2∧t=⟨[Z2e0,Z2e2],[Z2e5 L rn rv out,Z2e6 L,Z2e7 nm hd bo]⟩):=by
 exact gE ⟨rfl,rfl⟩ 0 [.is false] [0,10] [K0 100000,K1 100001,K0 10] (aC2 rF (zshd3q L))
end
theorem Runs.blk {P:Program} {n i:Nat} {c:Code} {st st':St} (h:Runs P n c st .normal st'):Runs P n (.block i c) st .normal st':=fun F a w x=>by
 refine wp_block (wp_mono (h F a w x) fun e' a' w' ⟨h1,h2⟩=> ?_)
 subst h1
 exact ⟨rfl,h2⟩
theorem turnC47 {S0 S1 S2 S3 S4 S5 S6 S7:St} (h:Rz 119 (fstC (loopOf Tryz.f47 1)) S0 .normal S0) (h0:Rz 119 (regOf Tryz.f47 57) S0 .normal S1) (h1:Rz 119 (regOf Tryz.f47 60) S1 .normal S2) (h2:Rz 119 (regOf Tryz.f47 65) S2 .normal S3) (h3:Rz 119 (condOf Tryz.f47 79) S3 .normal S4) (h4:Rz 119 (regOf Tryz.f47 94) S4 .normal S5) (h5:Rz 119 (regOf Tryz.f47 100) S5 .normal S6) (h6:Rz 119 (regOf Tryz.f47 104) S6 .normal S7):
  Rz 119 (loopOf Tryz.f47 1) S0 .normal S7:=by
 have e:sndC (loopOf Tryz.f47 1)= .block 3 (.seq (regOf Tryz.f47 57) (.seq (regOf Tryz.f47 60) (.seq (.seq (regOf Tryz.f47 65) (condOf Tryz.f47 79)) (.seq (regOf Tryz.f47 94) (.seq (regOf Tryz.f47 100) (regOf Tryz.f47 104)))))):=by kernel_rfl
 refine Runs.cut (by kernel_rfl) h ?_
 rw [e]
 exact (h0.seq (h1.seq ((h2.seq h3).seq (h4.seq (h5.seq h6))))).blk
def kW:List ByteArray→AV
 |[]=> .seq [] true
 |x::r=> .row 143 0 ((x::r).map AV.str).length
abbrev Z2f0:Nat×AV:=(0,.elt 100000 0 0)
abbrev Z2f1:Nat×AV:=(10,.elt 10 0 0)
abbrev Z2f2 (nm:ByteArray) (hd:List Ar) (bo:List Li):Nat×Ob:=(10,.var [.str nm,.seq (hd.map Ar.av) false,.own 16 (bo.map Li.av)])
abbrev Z2f3 (bd:List Li):Nat×Ob:=(45007,.row 16 (bd.map Li.av))
def s47 (L:List Ad) (rn:List ByteArray) (rv:List AV) (out:List Ru) (nm:ByteArray) (hd:List Ar) (bd bo:List Li) (ks:List ByteArray) (env:List (Nat×AV)) (hp:List (Nat×Ob)):St:=
 ⟨[Z2f0,(6,kW ks),Z2f1,(11,.row 45007 0 (bd.map Li.av).length)]++env,wp L (rn.map AV.str) rv out++(kP ks++([Z2f2 nm hd bo,Z2f3 bd]++hp))⟩
abbrev Z2f4:Nat×AV:=(6,.seq [] true)
abbrev Z2f5 (i:Nat):Nat×AV:=(12,.int .i64 (i:Int))
abbrev Z2f6:Nat×AV:=(13,.elt 13 0 0)
abbrev Z2f7 (L:List Ad) (rn:List ByteArray) (rv:List AV) (out:List Ru):Nat×Ob:=(100000,.var [.own 2 (L.map adA),.map 100001,.tmap (rn.map AV.str) rv,.own 3 (out.map Ru.av)])
abbrev Z2f8 (L:List Ad):Nat×Ob:=(100001,.map (L.map adA) (ixs L.length))
abbrev Z2f9 (x:Li):Nat×Ob:=(13,.var x.cells)
abbrev Z2fa (nm:ByteArray) (hd:List Ar) (es:List AV):Nat×Ob:=(10,.var [.str nm,.seq (hd.map Ar.av) false,.row 98 0 es.length])
abbrev Z2fc (bd:List Li) (i:Nat):List (Nat×AV):=[Z2f0,Z2f4,Z2f1,(11,.row 45007 0 (bd.map Li.av).length),Z2f5 i,Z2f6]
theorem own47n (L:List Ad) (rn:List ByteArray) (rv:List AV) (out:List Ru) (nm:ByteArray) (hd:List Ar) (bd bo:List Li) (i:Nat) (x:Li) (hbl:bo.length<1000000):Rz 119 (regOf Tryz.f47 94) ⟨(Z2fc bd i),[Z2f7 L rn rv out,Z2f8 L,Z2f2 nm hd bo,Z2f3 bd,Z2f9 x]⟩ .normal ⟨(Z2fc bd i),[Z2f7 L rn rv out,Z2f8 L,(10,.var [.str nm,.seq (hd.map Ar.av) false,.own 16 ((bo++[x]).map Li.av)]),Z2f3 bd,Z2f9 x]⟩:=by
 have cl:∀(es:List AV),0<es.length→noIdsL es=true→∀{s:St},Rz 119 (regOf Tryz.f47 94) s .normal ⟨(Z2fc bd i),[Z2f7 L rn rv out,Z2f8 L,Z2fa nm hd es,Z2f3 bd,Z2f9 x,(98,.row 16 es)]⟩→Rz 119 (regOf Tryz.f47 94) s .normal ⟨(Z2fc bd i),[Z2f7 L rn rv out,Z2f8 L,(10,.var [.str nm,.seq (hd.map Ar.av) false,.own 16 es]),Z2f3 bd,Z2f9 x]⟩:=by
  intro es h0 h1 s h
  have ht:es.take es.length=es:=List.take_length
  have b:=h.post (le_close (n:=119) (st:=⟨(Z2fc bd i),[Z2f7 L rn rv out,Z2f8 L,Z2fa nm hd es,Z2f3 bd,Z2f9 x,(98,.row 16 es)]⟩) 10 2 98 (o:= .var [.str nm,.seq (hd.map Ar.av) false,.row 98 0 es.length]) rfl rfl rfl h0 (Nat.le_refl _) (by rw [ht];exact h1) (by simp [mid]))
  rw [ht] at b
  exact b.keepR [0,6,10,11,12,13] [K0 100000,K1 100001,K0 10,K1 45007,K1 13] (cs:=[noIdsL (L.map adA)=true∧noIdsL (ixs L.length)=true,noIdsL (bd.map Li.av)=true,noIdsL x.cells=true]) rfl ⟨⟨noIdsL_ads L,noIdsL_ixs _⟩,noIdsL_lis bd,noIds_li x,trivial⟩
 rw [show (bo++[x]).map Li.av=bo.map Li.av++[x.av] from by simp]
 by_cases hn:bo=[]
 ·subst hn
  obtain ⟨e,t,⟨rfl,rfl⟩,h⟩:=r47hnn L rn rv out nm hd bd [] i x
  exact (cl [x.av] (by simp) (noIdsL_lis [x]) h).pre (le_openNil (st:=⟨(Z2fc bd i),[Z2f7 L rn rv out,Z2f8 L,(10,.var [.str nm,.seq (hd.map Ar.av) false,.own 16 []]),Z2f3 bd,Z2f9 x]⟩) 10 2 (sz:=16) rfl rfl)
 ·obtain ⟨e,t,⟨rfl,rfl⟩,h⟩:=r47hnr L rn rv out nm hd bd bo i x (ok_lis bo) hbl
  rw [show (bo.map Li.av).length+1=(bo.map Li.av++[x.av]).length from by simp] at h
  exact (cl _ (by simp) (by rw [noIdsL_app,noIdsL_lis];exact noIdsL_lis [x]) h).pre (le_open (st:=⟨(Z2fc bd i),[Z2f7 L rn rv out,Z2f8 L,Z2f2 nm hd bo,Z2f3 bd,Z2f9 x]⟩) 10 2 298 (sz:=16) rfl rfl (by simpa using hn) rfl (by simp [mid]))
abbrev Z2fb (ks:List ByteArray):Nat×Ob:=(143,.row 1 (ks.map AV.str))
abbrev Z2fd (ks:List ByteArray) (bd:List Li) (i:Nat):List (Nat×AV):=[Z2f0,(6,.row 143 0 (ks.map AV.str).length),Z2f1,(11,.row 45007 0 (bd.map Li.av).length),Z2f5 i,Z2f6]
theorem own47r (L:List Ad) (rn:List ByteArray) (rv:List AV) (out:List Ru) (nm:ByteArray) (hd:List Ar) (bd bo:List Li) (ks:List ByteArray) (i:Nat) (x:Li) (hbl:bo.length<1000000):Rz 119 (regOf Tryz.f47 94) ⟨(Z2fd ks bd i),[Z2f7 L rn rv out,Z2f8 L,Z2fb ks,Z2f2 nm hd bo,Z2f3 bd,Z2f9 x]⟩ .normal ⟨(Z2fd ks bd i),[Z2f7 L rn rv out,Z2f8 L,Z2fb ks,(10,.var [.str nm,.seq (hd.map Ar.av) false,.own 16 ((bo++[x]).map Li.av)]),Z2f3 bd,Z2f9 x]⟩:=by
 have cl:∀(es:List AV),0<es.length→noIdsL es=true→∀{s:St},Rz 119 (regOf Tryz.f47 94) s .normal ⟨(Z2fd ks bd i),[Z2f7 L rn rv out,Z2f8 L,Z2fb ks,Z2fa nm hd es,Z2f3 bd,Z2f9 x,(98,.row 16 es)]⟩→Rz 119 (regOf Tryz.f47 94) s .normal ⟨(Z2fd ks bd i),[Z2f7 L rn rv out,Z2f8 L,Z2fb ks,(10,.var [.str nm,.seq (hd.map Ar.av) false,.own 16 es]),Z2f3 bd,Z2f9 x]⟩:=by
  intro es h0 h1 s h
  have ht:es.take es.length=es:=List.take_length
  have b:=h.post (le_close (n:=119) (st:=⟨(Z2fd ks bd i),[Z2f7 L rn rv out,Z2f8 L,Z2fb ks,Z2fa nm hd es,Z2f3 bd,Z2f9 x,(98,.row 16 es)]⟩) 10 2 98 (o:= .var [.str nm,.seq (hd.map Ar.av) false,.row 98 0 es.length]) rfl rfl rfl h0 (Nat.le_refl _) (by rw [ht];exact h1) (by simp [mid]))
  rw [ht] at b
  exact b.keepR [0,6,10,11,12,13] [K0 100000,K1 100001,K1 143,K0 10,K1 45007,K1 13] (cs:=[noIdsL (L.map adA)=true∧noIdsL (ixs L.length)=true,noIdsL (ks.map AV.str)=true,noIdsL (bd.map Li.av)=true,noIdsL x.cells=true]) rfl ⟨⟨noIdsL_ads L,noIdsL_ixs _⟩,noIdsL_strs ks,noIdsL_lis bd,noIds_li x,trivial⟩
 rw [show (bo++[x]).map Li.av=bo.map Li.av++[x.av] from by simp]
 by_cases hn:bo=[]
 ·subst hn
  obtain ⟨e,t,⟨rfl,rfl⟩,h⟩:=r47hrn L rn rv out nm hd bd [] ks i x
  exact (cl [x.av] (by simp) (noIdsL_lis [x]) h).pre (le_openNil (st:=⟨(Z2fd ks bd i),[Z2f7 L rn rv out,Z2f8 L,Z2fb ks,(10,.var [.str nm,.seq (hd.map Ar.av) false,.own 16 []]),Z2f3 bd,Z2f9 x]⟩) 10 2 (sz:=16) rfl rfl)
 ·obtain ⟨e,t,⟨rfl,rfl⟩,h⟩:=r47hrr L rn rv out nm hd bd bo ks i x (ok_lis bo) hbl
  rw [show (bo.map Li.av).length+1=(bo.map Li.av++[x.av]).length from by simp] at h
  exact (cl _ (by simp) (by rw [noIdsL_app,noIdsL_lis];exact noIdsL_lis [x]) h).pre (le_open (st:=⟨(Z2fd ks bd i),[Z2f7 L rn rv out,Z2f8 L,Z2fb ks,Z2f2 nm hd bo,Z2f3 bd,Z2f9 x]⟩) 10 2 298 (sz:=16) rfl rfl (by simpa using hn) rfl (by simp [mid]))
section
variable (L:List Ad) (rn:List ByteArray) (rv:List AV) (out:List Ru) (nm:ByteArray) (hd:List Ar) (bd bo:List Li)
theorem patT_size (ts:List Tm) (ks:List ByteArray):(patT ts ks).size=ts.length:=by simp [patT,ByteArray.size]
def RV (rn:List ByteArray) (rv:List AV):Prop:=∀j,j<rn.length→∃es,rv[j]? =some (.seq es false)∧0<es.length
theorem len_li {x:Li} (h:x.terms.length<1000):x.ts.length<1000:=by
 unfold Li.terms at h
 simp only [List.length_append] at h
 omega
theorem ok_str {l:List ByteArray}:∀e,e∈l.map AV.str→okE 1 e:=okE_strs l
abbrev Z2g0:Nat×Ob:=(45007,.row 16 (bd.map Li.av))
abbrev Z2g1:Nat×AV:=(0,.elt 100000 0 0)
abbrev Z2g2:Nat×AV:=(10,.elt 10 0 0)
abbrev Z2g3 (i:Nat):Nat×AV:=(12,.int .i64 (i:Int))
abbrev Z2g4:Nat×AV:=(13,.elt 13 0 0)
abbrev Z2g5:Nat×Ob:=(100000,.var [.own 2 (L.map adA),.map 100001,.tmap (rn.map AV.str) rv,.own 3 (out.map Ru.av)])
abbrev Z2g6:Nat×Ob:=(100001,.map (L.map adA) (ixs L.length))
abbrev Z2g7:Nat×Ob:=(10,.var [.str nm,.seq (hd.map Ar.av) false,.own 16 (bo.map Li.av)])
abbrev Z2g8 (L2:List Ad):Nat×Ob:=(100000,.var [.own 2 (L2.map adA),.map 100001,.tmap (rn.map AV.str) rv,.own 3 (out.map Ru.av)])
abbrev Z2g9 (i:Nat):List (Nat×AV):=[Z2g1,(6,.seq [] true),Z2g2,(11,.row 45007 0 (bd.map Li.av).length),Z2g3 i,Z2g4]
theorem fin47n (i:Nat) (x:Li) (L2:List Ad) (x2:Li) (S3:St) (ht:x2.terms=x.terms) (hx:bd[i]? =some x) (hsm:bd.length≤1000) (hT:tinyB bd) (hbl:bo.length<1000000) (hks:([]:List ByteArray).length<100000)
  (k83:Sp 83 [.row 45007 0 (bd.map Li.av).length,.seq [] true] [Z2g0 bd] (.int .i64 (i:Int)) [])
  (h2:Rz 119 (regOf Tryz.f47 65) ⟨(Z2g9 bd i),[Z2g5 L rn rv out,Z2g6 L,Z2g7 nm hd bo,Z2g0 bd,(13,.var x.cells)]⟩ .normal S3) (h3:Rz 119 (condOf Tryz.f47 79) S3 .normal ⟨(Z2g9 bd i),[Z2g8 rn rv out L2,(100001,.map (L2.map adA) (ixs L2.length)),Z2g7 nm hd bo,Z2g0 bd,(13,.var x2.cells)]⟩):
  Rz 119 (loopOf Tryz.f47 1) (s47 L rn rv out nm hd bd bo ([]:List ByteArray) [] []) .normal (s47 L2 rn rv out nm hd (bd.eraseIdx i) (bo++[x2]) (([]:List ByteArray)++varsOf x.terms) [] []):=by
 have hi:=(List.getElem?_eq_some_iff.1 hx).1
 have hxm:=List.mem_of_getElem? hx
 have hTx:=hT x hxm
 have hav:(bd.map Li.av)[0+Int.toNat (i:Int)]? =some x.av:=by rw [Nat.zero_add,Int.toNat_natCast,List.getElem?_map,hx];rfl
 obtain ⟨e,t,⟨rfl,rfl⟩,h⟩:=h47n L rn rv out nm hd bd bo (by omega)
 obtain ⟨e,t,⟨rfl,rfl⟩,h0⟩:=r47an L rn rv out nm hd bd bo i k83
 obtain ⟨e,t,⟨rfl,rfl⟩,h1⟩:=r47bn L rn rv out nm hd bd bo i x hav hi (by omega)
 have h4:=own47n L2 rn rv out nm hd bd bo i x2 hbl
 have k52':Sp 52 [x2.av] [] (.seq ((varsOf x2.terms).map .str) false) []:=k52 x2 (by rw [ht];omega)
 have hvl:(varsOf x2.terms).length<1000:=by rw [ht];omega
 rw [←ht]
 by_cases hv:varsOf x2.terms=[]
 ·obtain ⟨e,t,⟨rfl,rfl⟩,h5⟩:=r47in L2 rn rv out nm hd bd (bo++[x2]) i x2 k52' (by rw [hv];rfl)
  obtain ⟨e,t,⟨rfl,rfl⟩,h6⟩:=r47kn L2 rn rv out nm hd bd (bo++[x2]) i x2 hi hsm
  rw [hv,List.append_nil]
  exact turnC47 h h0 h1 h2 h3 h4 h5 h6
 ·obtain ⟨e,t,⟨rfl,rfl⟩,h5⟩:=r47jn L2 rn rv out nm hd bd (bo++[x2]) i x2 k52' ⟨trivial,by simpa using hv,ok_str,by simp,by simp;omega,by simp;omega⟩
  obtain ⟨e,t,⟨rfl,rfl⟩,h6⟩:=r47kr L2 rn rv out nm hd bd (bo++[x2]) (varsOf x2.terms) i x2 hi hsm
  rw [show List.length ([]:List AV)+((varsOf x2.terms).map AV.str).length=((varsOf x2.terms).map AV.str).length from by simp,List.nil_append] at h5
  have r:=turnC47 h h0 h1 h2 h3 h4 h5 h6
  rw [List.nil_append]
  revert r
  generalize varsOf x2.terms=vs at hv
  intro r
  cases vs with
  |nil=>exact absurd rfl hv
  |cons y q=>exact r
theorem turn47n (hrv:RV rn rv) (hne:bd≠[]) (hsm:bd.length≤1000) (hT:tinyB bd) (hn:∀y,y∈bd→(y.k=1∨y.k=2)→y.p.size≤120) (hbl:bo.length<1000000) (hks:([]:List ByteArray).length<100000) (hL:L.length<1000000):
  ∃(i:Nat) (x:Li),bd[i]? =some x∧((¬(x.k=1∧x.p∈rn)∧Rz 119 (loopOf Tryz.f47 1) (s47 L rn rv out nm hd bd bo ([]:List ByteArray) [] []) .normal (s47 L rn rv out nm hd (bd.eraseIdx i) (bo++[x]) (([]:List ByteArray)++varsOf x.terms) [] []))∨
   (x.k=1∧x.p∈rn∧Rz 119 (loopOf Tryz.f47 1) (s47 L rn rv out nm hd bd bo ([]:List ByteArray) [] []) .normal (s47 (meetL L (x.p,patT x.ts ([]:List ByteArray))) rn rv out nm hd (bd.eraseIdx i) (bo++[({x with p:=nameT x.p (patT x.ts ([]:List ByteArray))}:Li)]) (([]:List ByteArray)++varsOf x.terms) [] []))):=by
 obtain ⟨i,hi,sp⟩:=n83 bd hne hsm hT
 have hx:bd[i]? =some bd[i]:=List.getElem?_eq_getElem hi
 refine ⟨i,bd[i],hx,?_⟩
 generalize bd[i]=x at hx
 have hxm:=List.mem_of_getElem? hx
 have hts:=len_li (hT x hxm).1
 by_cases hk:x.k=1
 ·by_cases hp:x.p∈rn
  ·obtain ⟨j,hf,hj⟩:=findA_some (i:=0) hp
   rw [Nat.zero_add] at hf
   obtain ⟨es,h5,h6⟩:=hrv j (List.getElem?_eq_some_iff.1 hj).1
   obtain ⟨e,t,⟨rfl,rfl⟩,h2⟩:=r47en L rn rv out nm hd bd bo i x es (decide_eq_true (by omega)) (decide_eq_true hk) ⟨j,hf,h5⟩
   obtain ⟨e,t,⟨rfl,rfl⟩,h3⟩:=r47gn L rn rv out nm hd bd bo i x hL (by have:=hn x hxm (.inl hk);omega) (by omega) (by rw [patT_size];omega)
   exact .inr ⟨hk,hp,fin47n L rn rv out nm hd bd bo i x (meetL L (x.p,patT x.ts [])) {x with p:=nameT x.p (patT x.ts [])} _ rfl hx hsm hT hbl hks sp h2 h3⟩
  ·obtain ⟨e,t,⟨rfl,rfl⟩,h2⟩:=r47dn L rn rv out nm hd bd bo i x (decide_eq_true hk) (findA_none hp)
   obtain ⟨e,t,⟨rfl,rfl⟩,h3⟩:=r47fn L rn rv out nm hd bd bo i x
   exact .inl ⟨fun h=>hp h.2,fin47n L rn rv out nm hd bd bo i x L x _ rfl hx hsm hT hbl hks sp h2 h3⟩
 ·obtain ⟨e,t,⟨rfl,rfl⟩,h2⟩:=r47cn L rn rv out nm hd bd bo i x (decide_eq_false hk)
  obtain ⟨e,t,⟨rfl,rfl⟩,h3⟩:=r47fn L rn rv out nm hd bd bo i x
  exact .inl ⟨fun h=>hk h.1,fin47n L rn rv out nm hd bd bo i x L x _ rfl hx hsm hT hbl hks sp h2 h3⟩
abbrev Z2ga (k0:ByteArray) (kr:List ByteArray) (i:Nat):List (Nat×AV):=[Z2g1,(6,.row 143 0 ((k0::kr).map AV.str).length),Z2g2,(11,.row 45007 0 (bd.map Li.av).length),Z2g3 i,Z2g4]
theorem fin47r (i:Nat) (x:Li) (k0:ByteArray) (kr:List ByteArray) (L2:List Ad) (x2:Li) (S3:St) (ht:x2.terms=x.terms) (hx:bd[i]? =some x) (hsm:bd.length≤1000) (hT:tinyB bd) (hbl:bo.length<1000000) (hks:(k0::kr).length<100000)
  (k83:Sp 83 [.row 45007 0 (bd.map Li.av).length,.row 143 0 ((k0::kr).map AV.str).length] [Z2g0 bd,(143,.row 1 ((k0::kr).map AV.str))] (.int .i64 (i:Int)) [])
  (h2:Rz 119 (regOf Tryz.f47 65) ⟨(Z2ga bd k0 kr i),[Z2g5 L rn rv out,Z2g6 L,(143,.row 1 ((k0::kr).map AV.str)),Z2g7 nm hd bo,Z2g0 bd,(13,.var x.cells)]⟩ .normal S3) (h3:Rz 119 (condOf Tryz.f47 79) S3 .normal ⟨(Z2ga bd k0 kr i),[Z2g8 rn rv out L2,(100001,.map (L2.map adA) (ixs L2.length)),(143,.row 1 ((k0::kr).map AV.str)),Z2g7 nm hd bo,Z2g0 bd,(13,.var x2.cells)]⟩):
  Rz 119 (loopOf Tryz.f47 1) (s47 L rn rv out nm hd bd bo (k0::kr) [] []) .normal (s47 L2 rn rv out nm hd (bd.eraseIdx i) (bo++[x2]) ((k0::kr)++varsOf x.terms) [] []):=by
 have hi:=(List.getElem?_eq_some_iff.1 hx).1
 have hxm:=List.mem_of_getElem? hx
 have hTx:=hT x hxm
 have hav:(bd.map Li.av)[0+Int.toNat (i:Int)]? =some x.av:=by rw [Nat.zero_add,Int.toNat_natCast,List.getElem?_map,hx];rfl
 obtain ⟨e,t,⟨rfl,rfl⟩,h⟩:=h47r L rn rv out nm hd bd bo (k0::kr) (by omega)
 obtain ⟨e,t,⟨rfl,rfl⟩,h0⟩:=r47ar L rn rv out nm hd bd bo (k0::kr) i k83
 obtain ⟨e,t,⟨rfl,rfl⟩,h1⟩:=r47br L rn rv out nm hd bd bo (k0::kr) i x hav hi (by omega)
 have h4:=own47r L2 rn rv out nm hd bd bo (k0::kr) i x2 hbl
 have k52':Sp 52 [x2.av] [] (.seq ((varsOf x2.terms).map .str) false) []:=k52 x2 (by rw [ht];omega)
 have hvl:(varsOf x2.terms).length<1000:=by rw [ht];omega
 rw [←ht]
 by_cases hv:varsOf x2.terms=[]
 ·obtain ⟨e,t,⟨rfl,rfl⟩,h5⟩:=r47ir L2 rn rv out nm hd bd (bo++[x2]) (k0::kr) i x2 k52' (by rw [hv];rfl)
  obtain ⟨e,t,⟨rfl,rfl⟩,h6⟩:=r47kr L2 rn rv out nm hd bd (bo++[x2]) (k0::kr) i x2 hi hsm
  rw [hv,List.append_nil]
  exact turnC47 h h0 h1 h2 h3 h4 h5 h6
 ·obtain ⟨e,t,⟨rfl,rfl⟩,h5⟩:=r47jr L2 rn rv out nm hd bd (bo++[x2]) (k0::kr) i x2 k52' ⟨trivial,rfl,rfl,ok_str,ok_str,by simp only [List.length_map];omega,by simp only [List.length_map];omega⟩
  obtain ⟨e,t,⟨rfl,rfl⟩,h6⟩:=r47kr L2 rn rv out nm hd bd (bo++[x2]) ((k0::kr)++varsOf x2.terms) i x2 hi hsm
  rw [show ((k0::kr).map AV.str).length+((varsOf x2.terms).map AV.str).length=(((k0::kr)++varsOf x2.terms).map AV.str).length from by simp only [List.length_map,List.length_append],←List.map_append] at h5
  exact turnC47 h h0 h1 h2 h3 h4 h5 h6
theorem turn47r (k0:ByteArray) (kr:List ByteArray) (hrv:RV rn rv) (hne:bd≠[]) (hsm:bd.length≤1000) (hT:tinyB bd) (hn:∀y,y∈bd→(y.k=1∨y.k=2)→y.p.size≤120) (hbl:bo.length<1000000) (hks:(k0::kr).length<100000) (hL:L.length<1000000):
  ∃(i:Nat) (x:Li),bd[i]? =some x∧((¬(x.k=1∧x.p∈rn)∧Rz 119 (loopOf Tryz.f47 1) (s47 L rn rv out nm hd bd bo (k0::kr) [] []) .normal (s47 L rn rv out nm hd (bd.eraseIdx i) (bo++[x]) ((k0::kr)++varsOf x.terms) [] []))∨
   (x.k=1∧x.p∈rn∧Rz 119 (loopOf Tryz.f47 1) (s47 L rn rv out nm hd bd bo (k0::kr) [] []) .normal (s47 (meetL L (x.p,patT x.ts (k0::kr))) rn rv out nm hd (bd.eraseIdx i) (bo++[({x with p:=nameT x.p (patT x.ts (k0::kr))}:Li)]) ((k0::kr)++varsOf x.terms) [] []))):=by
 obtain ⟨i,hi,sp⟩:=k83b bd (k0::kr) hne (by omega) hsm hT
 have hx:bd[i]? =some bd[i]:=List.getElem?_eq_getElem hi
 refine ⟨i,bd[i],hx,?_⟩
 generalize bd[i]=x at hx
 have hxm:=List.mem_of_getElem? hx
 have hts:=len_li (hT x hxm).1
 by_cases hk:x.k=1
 ·by_cases hp:x.p∈rn
  ·obtain ⟨j,hf,hj⟩:=findA_some (i:=0) hp
   rw [Nat.zero_add] at hf
   obtain ⟨es,h5,h6⟩:=hrv j (List.getElem?_eq_some_iff.1 hj).1
   obtain ⟨e,t,⟨rfl,rfl⟩,h2⟩:=r47er L rn rv out nm hd bd bo (k0::kr) i x es (decide_eq_true (by omega)) (decide_eq_true hk) ⟨j,hf,h5⟩
   obtain ⟨e,t,⟨rfl,rfl⟩,h3⟩:=r47gr L rn rv out nm hd bd bo (k0::kr) (by omega) i x hL (by have:=hn x hxm (.inl hk);omega) (by omega) (by rw [patT_size];omega)
   exact .inr ⟨hk,hp,fin47r L rn rv out nm hd bd bo i x k0 kr (meetL L (x.p,patT x.ts (k0::kr))) {x with p:=nameT x.p (patT x.ts (k0::kr))} _ rfl hx hsm hT hbl hks sp h2 h3⟩
  ·obtain ⟨e,t,⟨rfl,rfl⟩,h2⟩:=r47dr L rn rv out nm hd bd bo (k0::kr) i x (decide_eq_true hk) (findA_none hp)
   obtain ⟨e,t,⟨rfl,rfl⟩,h3⟩:=r47fr L rn rv out nm hd bd bo (k0::kr) i x
   exact .inl ⟨fun h=>hp h.2,fin47r L rn rv out nm hd bd bo i x k0 kr L x _ rfl hx hsm hT hbl hks sp h2 h3⟩
 ·obtain ⟨e,t,⟨rfl,rfl⟩,h2⟩:=r47cr L rn rv out nm hd bd bo (k0::kr) i x (decide_eq_false hk)
  obtain ⟨e,t,⟨rfl,rfl⟩,h3⟩:=r47fr L rn rv out nm hd bd bo (k0::kr) i x
  exact .inl ⟨fun h=>hk h.1,fin47r L rn rv out nm hd bd bo i x k0 kr L x _ rfl hx hsm hT hbl hks sp h2 h3⟩
inductive Steps (rn:List ByteArray):List Ad→List ByteArray→List Li→List Ad→List Li→Prop where
 |nil (L:List Ad) (ks:List ByteArray):Steps rn L ks [] L []
 |skip {L L':List Ad} {ks:List ByteArray} {rest body:List Li} (i:Nat) (x:Li) (hx:rest[i]? =some x) (hn:¬(x.k=1∧x.p∈rn)) (h:Steps rn L (ks++varsOf x.terms) (rest.eraseIdx i) L' body):Steps rn L ks rest L' (x::body)
 |ask {L L':List Ad} {ks:List ByteArray} {rest body:List Li} (i:Nat) (x:Li) (hx:rest[i]? =some x) (hk:x.k=1) (hp:x.p∈rn) (h:Steps rn (meetL L (x.p,patT x.ts ks)) (ks++varsOf x.terms) (rest.eraseIdx i) L' body):
  Steps rn L ks rest L' (({x with p:=nameT x.p (patT x.ts ks)}:Li)::body)
theorem meetL_len (a:Ad):(meetL L a).length≤L.length+1:=by
 unfold meetL
 split
 ·omega
 ·simp
theorem l47_1 (rn:List ByteArray) (rv:List AV) (out:List Ru) (nm:ByteArray) (hd:List Ar) (hrv:RV rn rv):∀(n:Nat) (L:List Ad) (bd bo:List Li) (ks:List ByteArray),bd.length=n→n≤1000→tinyB bd→(∀y,y∈bd→(y.k=1∨y.k=2)→y.p.size≤120)→bo.length+n<1000000→ks.length+n*1000<100000→L.length+n<1000000→
  ∃(L':List Ad) (body:List Li),Steps rn L ks bd L' body∧Lo 119 (loopOf Tryz.f47 1) (s47 L rn rv out nm hd bd bo ks [] []) (.exit 2) ⟨[Z2g1,Z2g2],wp L' (rn.map AV.str) rv out++[(10,.var [.str nm,.seq (hd.map Ar.av) false,.own 16 ((bo++body).map Li.av)])]⟩
 |0,L,bd,bo,ks,h0,_,_,_,_,_,_=>by
  have:bd=[]:=List.eq_nil_of_length_eq_zero h0
  subst this
  refine ⟨L,[],.nil L ks,?_⟩
  rw [List.append_nil]
  cases ks with
  |nil=>
   obtain ⟨e,t,⟨rfl,rfl⟩,h⟩:=z47n L rn rv out nm hd [] bo
   exact .leave h (by simp)
  |cons k0 kr=>
   obtain ⟨e,t,⟨rfl,rfl⟩,h⟩:=z47r L rn rv out nm hd [] bo (k0::kr)
   exact .leave h (by simp)
 |n+1,L,bd,bo,ks,h0,hsm,hT,hn,hbl,hks,hL=>by
  have hne:bd≠[]:=by rintro rfl;simp at h0
  have main:∃(i:Nat) (x:Li),bd[i]? =some x∧((¬(x.k=1∧x.p∈rn)∧Rz 119 (loopOf Tryz.f47 1) (s47 L rn rv out nm hd bd bo ks [] []) .normal (s47 L rn rv out nm hd (bd.eraseIdx i) (bo++[x]) (ks++varsOf x.terms) [] []))∨
   (x.k=1∧x.p∈rn∧Rz 119 (loopOf Tryz.f47 1) (s47 L rn rv out nm hd bd bo ks [] []) .normal (s47 (meetL L (x.p,patT x.ts ks)) rn rv out nm hd (bd.eraseIdx i) (bo++[({x with p:=nameT x.p (patT x.ts ks)}:Li)]) (ks++varsOf x.terms) [] []))):=by
   cases ks with
   |nil=>exact turn47n L rn rv out nm hd bd bo hrv hne (by omega) hT hn (by omega) (by simp) (by omega)
   |cons k0 kr=>exact turn47r L rn rv out nm hd bd bo k0 kr hrv hne (by omega) hT hn (by omega) (by omega) (by omega)
  obtain ⟨i,x,hx,h⟩:=main
  have hi:=(List.getElem?_eq_some_iff.1 hx).1
  have hvl:(varsOf x.terms).length<1000:=(hT x (List.mem_of_getElem? hx)).2.2.2.1
  have hl:(bd.eraseIdx i).length=n:=by rw [List.length_eraseIdx_of_lt hi];omega
  have hsub:∀y,y∈bd.eraseIdx i→y∈bd:=fun y hy=>List.mem_of_mem_eraseIdx hy
  have hkl:(ks++varsOf x.terms).length+n*1000<100000:=by rw [List.length_append];omega
  have hbl':∀z:Li,(bo++[z]).length+n<1000000:=fun z=>by simp;omega
  rcases h with ⟨h1,h⟩|⟨h1,h2,h⟩
  ·obtain ⟨L',body,hs,hL'⟩:=l47_1 rn rv out nm hd hrv n L (bd.eraseIdx i) _ (ks++varsOf x.terms) hl (by omega) (fun y hy=>hT y (hsub y hy)) (fun y hy=>hn y (hsub y hy)) (hbl' x) hkl (by omega)
   refine ⟨L',x::body,.skip i x hx h1 hs,.turn h ?_⟩
   rw [List.append_assoc,List.singleton_append] at hL'
   exact hL'
  ·have hm:=meetL_len L (x.p,patT x.ts ks)
   obtain ⟨L',body,hs,hL'⟩:=l47_1 rn rv out nm hd hrv n (meetL L (x.p,patT x.ts ks)) (bd.eraseIdx i) _ (ks++varsOf x.terms) hl (by omega) (fun y hy=>hT y (hsub y hy)) (fun y hy=>hn y (hsub y hy)) (hbl' {x with p:=nameT x.p (patT x.ts ks)}) hkl (by omega)
   refine ⟨L',_,.ask i x hx h1 h2 hs,.turn h ?_⟩
   rw [List.append_assoc,List.singleton_append] at hL'
   exact hL'
end
section
variable (L:List Ad) (rn:List ByteArray) (rv:List AV) (out:List Ru) (p nm:ByteArray) (hd:List Ar) (bd:List Li) (ks:List ByteArray)
theorem Runs.exitBlk {P:Program} {n i:Nat} {c:Code} {st st':St} (h:Runs P n c st (.exit i) st'):Runs P n (.block i c) st .normal st':=fun F a w x=>by
 refine wp_block (wp_mono (h F a w x) fun e' a' w' ⟨h1,h2⟩=> ?_)
 subst h1
 simp only [Out.x,Exit.inBlock,if_pos trivial]
 exact ⟨trivial,h2⟩
@[simp] theorem noIdsL_rus' (l:List Ru):noIdsL (l.map Ru.av)=true:=noIdsL_of Ru.av noIds_ru l
theorem ok_rus (l:List Ru):∀e,e∈l.map Ru.av→okE 3 e:=fun e he=>by
 obtain ⟨x,_,rfl⟩:=List.mem_map.1 he
 exact ⟨rfl,by simp [Ru.av,AV.cells,solid]⟩
theorem le_wkVar {n:Nat} {st:St} (id:Nat) {cs ds:List AV} (ho:look st.hp id=some (.var cs)) (hl:cs.length=ds.length) (hw:∀(j:Nat) x y,cs[j]? =some x→ds[j]? =some y→Wk x y) (hown:∀(j sz:Nat) (es:List AV),ds[j]? =some (.own sz es)→cs[j]? =some (.own sz es)):
  Le n st ⟨st.env,putL st.hp id (.var ds)⟩:=by
 rintro F a w ⟨S,β,E,M⟩
 obtain ⟨bi,h1,h2,cur,t,g1,g2,g3,g4,g5,g6⟩:=M.obs id _ ho
 have one:∀{i:Nat} {e:AV},[AV.agg ds][i]? =some e→i=0∧e= .agg ds:=fun {i e} h=>by
  cases i with
  |zero=>simp at h;exact ⟨rfl,h.symm⟩
  |succ i=>simp at h
 obtain ⟨x,M'⟩:=M.turn (w':=w) h1 ho (by simp) ⟨rfl,rfl,rfl,Nat.le_refl _,fun _ _ _=>rfl⟩ (.var ds) ⟨bi,h1,h2,cur,t,g1,g2,g3,g4,fun i e h=>by
  obtain ⟨_,rfl⟩:=one h
  show ds.length=bi.sz
  rw [←hl];exact g5 0 (.agg cs) rfl,fun i j e c h k=>by
  obtain ⟨rfl,rfl⟩:=one h
  have k':ds[j]? =some c:=k
  have hj:j<cs.length:=by rw [hl];exact (List.getElem?_eq_some_iff.1 k').1
  obtain ⟨u,hu,hv⟩:=g6 0 j (.agg cs) cs[j] rfl (List.getElem?_eq_getElem hj)
  exact ⟨u,hu,(hw j _ c (List.getElem?_eq_getElem hj) k').V hv⟩⟩ (fun j sz es h=>⟨hown j sz es h,rfl⟩)
 exact ⟨S,β,E,M'⟩
abbrev Z2h0:Nat×AV:=(0,.elt 100000 0 0)
abbrev Z2h1:Nat×AV:=(4,.tptr [.str p,.seq (hd.map Ar.av) false,.seq (bd.map Li.av) false])
abbrev Z2h2 (a:Ad):Nat×AV:=(5,.tptr [.str a.1,.str a.2])
abbrev Z2h3:Nat×Ob:=(100000,.var [.own 2 (L.map adA),.map 100001,.tmap (rn.map AV.str) rv,.own 3 (out.map Ru.av)])
abbrev Z2h4:Nat×Ob:=(100001,.map (L.map adA) (ixs L.length))
theorem w47d (nm:ByteArray) (hd:List Ar) (bd:List Li) (a:Ad):EN 119 (partC 1 (bodyOf Tryz.f47)) ⟨[Z2h0,Z2h1 p hd bd,Z2h2 a],[Z2h3 L rn rv out,Z2h4 L]⟩ ⟨[Z2h0,Z2h1 p hd bd,Z2h2 a,(6,.nils)],[Z2h3 L rn rv out,Z2h4 L]⟩:=by
 exact gE ⟨rfl,rfl⟩ 0 [] [0,4,5,6] [K0 100000,K1 100001] (aC1 (zshd3q L))
abbrev Z2h5:Nat×Ob:=(45007,.row 16 (bd.map Li.av))
abbrev Z2h6:Nat×AV:=(6,.seq [] true)
abbrev Z2h7:Nat×AV:=(10,.elt 10 0 0)
abbrev Z2h8:Nat×Ob:=(10,.var [.str nm,.seq (hd.map Ar.av) false,.own 16 []])
theorem w47en (k82:Sp 82 [.seq (bd.map Li.av) false] [] (.row 45007 0 (bd.map Li.av).length) [Z2h5 bd]):EN 119 (partC 4 (bodyOf Tryz.f47)) ⟨[Z2h0,Z2h1 p hd bd,Z2h6,Z2h7],[Z2h3 L rn rv out,Z2h4 L,Z2h8 nm hd]⟩ ⟨[Z2h0,Z2h6,Z2h7,(11,.row 45007 0 (bd.map Li.av).length)],[Z2h3 L rn rv out,Z2h4 L,Z2h8 nm hd,Z2h5 bd]⟩:=by
 have hs0:=k82
 exact gE ⟨rfl,rfl⟩ 0 [.call (.row 45007 0 (bd.map Li.av).length) [] [Z2h5 bd]] [0,6,10,11] [K0 100000,K1 100001,K0 10,K1 45007] (aC3 hs0 (zshd3q L) (zsokbf bd))
abbrev Z2h9:Nat×AV:=(4,.tptr [.str p,.seq (hd.map Ar.av) false,.seq (([]:List Li).map Li.av) false])
abbrev Z2ha:Nat×AV:=(11,.seq [] false)
abbrev Z2hh:St:=⟨[Z2h0,Z2h6,Z2h7,Z2ha],[Z2h3 L rn rv out,Z2h4 L,Z2h8 nm hd]⟩
theorem w47fn (bd:List Li) (k82:Sp 82 [.seq (([]:List Li).map Li.av) false] [] (.seq (([]:List Li).map Li.av) false) []):EN 119 (partC 4 (bodyOf Tryz.f47)) ⟨[Z2h0,Z2h9 p hd,Z2h6,Z2h7],[Z2h3 L rn rv out,Z2h4 L,Z2h8 nm hd]⟩ (Z2hh L rn rv out nm hd):=by
 have hs0:=k82
 exact gE ⟨rfl,rfl⟩ 0 [.call (.seq [] false) [] []] [0,6,10,11] [K0 100000,K1 100001,K0 10] (aC2 hs0 (zshd3q L))
abbrev Z2hi:St:=⟨[Z2h0,Z2h7],[Z2h3 L rn rv out,Z2h4 L,Z2h8 nm hd]⟩
theorem z47en (p nm:ByteArray) (hd:List Ar) (bd:List Li):En 119 (loopOf Tryz.f47 1) (Z2hh L rn rv out nm hd) (fun e t=>e= .exit 2∧t=(Z2hi L rn rv out nm hd)):=by
 exact gE ⟨rfl,rfl⟩ 0 [.is false] [0,10] [K0 100000,K1 100001,K0 10] (aC2 rF (zshd3q L))
abbrev Z2hb:Nat×Ob:=(143,.row 1 (ks.map AV.str))
theorem w47er (k82:Sp 82 [.seq (bd.map Li.av) false] [] (.row 45007 0 (bd.map Li.av).length) [Z2h5 bd]):EN 119 (partC 4 (bodyOf Tryz.f47)) ⟨[Z2h0,Z2h1 p hd bd,(6,.row 143 0 (ks.map AV.str).length),Z2h7],[Z2h3 L rn rv out,Z2h4 L,Z2hb ks,Z2h8 nm hd]⟩ ⟨[Z2h0,(6,.row 143 0 (ks.map AV.str).length),Z2h7,(11,.row 45007 0 (bd.map Li.av).length)],[Z2h3 L rn rv out,Z2h4 L,Z2hb ks,Z2h8 nm hd,Z2h5 bd]⟩:=by
 have hs0:=k82
 exact gE ⟨rfl,rfl⟩ 0 [.call (.row 45007 0 (bd.map Li.av).length) [] [Z2h5 bd]] [0,6,10,11] [K0 100000,K1 100001,K1 143,K0 10,K1 45007] (aC4 hs0 (zshd3q L) (zs2m9r ks) (zsokbf bd))
abbrev Z2hj:St:=⟨[Z2h0,(6,.row 143 0 (ks.map AV.str).length),Z2h7,Z2ha],[Z2h3 L rn rv out,Z2h4 L,Z2hb ks,Z2h8 nm hd]⟩
theorem w47fr (bd:List Li) (ks:List ByteArray) (k82:Sp 82 [.seq (([]:List Li).map Li.av) false] [] (.seq (([]:List Li).map Li.av) false) []):EN 119 (partC 4 (bodyOf Tryz.f47)) ⟨[Z2h0,Z2h9 p hd,(6,.row 143 0 (ks.map AV.str).length),Z2h7],[Z2h3 L rn rv out,Z2h4 L,Z2hb ks,Z2h8 nm hd]⟩ (Z2hj L rn rv out nm hd ks):=by
 have hs0:=k82
 exact gE ⟨rfl,rfl⟩ 0 [.call (.seq [] false) [] []] [0,6,10,11] [K0 100000,K1 100001,K1 143,K0 10] (aC3 hs0 (zshd3q L) (zs2m9r ks))
theorem z47er (p nm:ByteArray) (hd:List Ar) (bd:List Li) (ks:List ByteArray):En 119 (loopOf Tryz.f47 1) (Z2hj L rn rv out nm hd ks) (fun e t=>e= .exit 2∧t=(Z2hi L rn rv out nm hd)):=by
 exact gE ⟨rfl,rfl⟩ 0 [.is false] [0,10] [K0 100000,K1 100001,K0 10] (aC2 rF (zshd3q L))
abbrev Z2hc:Nat×Ob:=(10,.var [.str nm,.seq (hd.map Ar.av) false,.seq (bd.map Li.av) false])
theorem r19n:EN 119 (regOf Tryz.f47 109) ⟨[Z2h0,Z2h7],[(100000,.var [.own 2 (L.map adA),.map 100001,.tmap (rn.map AV.str) rv,.nils]),Z2h4 L,Z2hc nm hd bd]⟩ ⟨[],[(100000,.var [.own 2 (L.map adA),.map 100001,.tmap (rn.map AV.str) rv,.row 60116 0 1]),Z2h4 L,(60116,.row 3 [.agg [.str nm,.seq (hd.map Ar.av) false,.seq (bd.map Li.av) false]])]⟩:=by
 exact gE ⟨rfl,rfl⟩ 60000 [.is true] [] [K0 100000,K1 100001,K1 60116] (aC3 (show 1≤List.length [AV.agg [AV.str nm,AV.seq (hd.map Ar.av) false,AV.seq (bd.map Li.av) false]]∧[AV.agg [AV.str nm,AV.seq (hd.map Ar.av) false,AV.seq (bd.map Li.av) false]]≠[]∧(∀(e:AV),e∈[AV.agg [AV.str nm,AV.seq (hd.map Ar.av) false,AV.seq (bd.map Li.av) false]]→okE 3 e)∧(∀(e:AV),e∈[]→okE 3 e)∧(↑(0+List.length [AV.agg [AV.str nm,AV.seq (hd.map Ar.av) false,AV.seq (bd.map Li.av) false]]):Int)*64≤140737488355328∧0+List.length [AV.agg [AV.str nm,AV.seq (hd.map Ar.av) false,AV.seq (bd.map Li.av) false]]≤9223372036854775807 from by simp) (zshd3q L) rT)
theorem zs8daz (out:List Ru) (nm:ByteArray) (hd:List Ar) (bd:List Li):noIdsL (List.map Ru.av out++[AV.agg [AV.str nm,AV.seq (hd.map Ar.av) false,AV.seq (bd.map Li.av) false]])=true:=by simp
theorem r19r (hok:∀e,e∈out.map Ru.av→okE 3 e) (hl:out.length<1000000000):EN 119 (regOf Tryz.f47 109) ⟨[Z2h0,Z2h7],[(100000,.var [.own 2 (L.map adA),.map 100001,.tmap (rn.map AV.str) rv,.row 60500 0 (out.map Ru.av).length]),Z2h4 L,Z2hc nm hd bd,(60500,.row 3 (out.map Ru.av))]⟩ ⟨[],[(100000,.var [.own 2 (L.map adA),.map 100001,.tmap (rn.map AV.str) rv,.row 60116 0 ((out.map Ru.av).length+1)]),Z2h4 L,(60116,.row 3 (out.map Ru.av++[.agg [.str nm,.seq (hd.map Ar.av) false,.seq (bd.map Li.av) false]]))]⟩:=by
 exact gE ⟨rfl,rfl⟩ 60000 [.is true] [] [K0 100000,K1 100001,K1 60116] (aC3 (show (1:Nat)≤List.length [AV.agg [AV.str nm,AV.seq (hd.map Ar.av) false,AV.seq (bd.map Li.av) false]]∧(0:Nat)=(0:Nat)∧List.length (out.map Ru.av)=List.length (out.map Ru.av)∧(∀(e:AV),e∈[AV.agg [AV.str nm,AV.seq (hd.map Ar.av) false,AV.seq (bd.map Li.av) false]]→okE (3:Nat) e)∧(∀(e:AV),e∈List.map Ru.av out→okE (3:Nat) e)∧(↑(List.length (out.map Ru.av)+List.length [AV.agg [AV.str nm,AV.seq (hd.map Ar.av) false,AV.seq (bd.map Li.av) false]]):Int)*(64:Int)≤(140737488355328:Int)∧List.length (out.map Ru.av)+List.length [AV.agg [AV.str nm,AV.seq (hd.map Ar.av) false,AV.seq (bd.map Li.av) false]]≤(9223372036854775807:Nat) from by refine ⟨by simp,rfl,rfl,by simp,by assumption,?_,?_⟩<;>(simp;omega)) (zshd3q L) (zs8daz out nm hd bd))
abbrev Z2hd:Nat×Ob:=(10,.var [.str nm,.seq (hd.map Ar.av) false,.own 16 (bd.map Li.av)])
abbrev Z2hk:St:=⟨[Z2h0,Z2h7],[Z2h3 L rn rv out,Z2h4 L,Z2hc nm hd bd]⟩
theorem bodyLe47:Le 119 ⟨[Z2h0,Z2h7],wp L (rn.map AV.str) rv out++[Z2hd nm hd bd]⟩ (Z2hk L rn rv out nm hd bd):=by
 by_cases hn:bd=[]
 ·subst hn
  refine (le_openNil (n:=119) (st:=(Z2hi L rn rv out nm hd)) 10 2 (sz:=16) rfl rfl).trans ?_
  refine le_wkVar (n:=119) (st:=⟨[Z2h0,Z2h7],[Z2h3 L rn rv out,Z2h4 L,(10,.var [.str nm,.seq (hd.map Ar.av) false,.nils])]⟩) 10 (cs:=[.str nm,.seq (hd.map Ar.av) false,.nils]) (ds:=[.str nm,.seq (hd.map Ar.av) false,.seq [] false]) rfl rfl (fun j x y h1 h2=> ?_) (fun j sz es h=> ?_)
  ·match j,h1,h2 with
   |0,h1,h2=>simp at h1 h2;subst h1;subst h2;exact .refl _
   |1,h1,h2=>simp at h1 h2;subst h1;subst h2;exact .refl _
   |2,h1,h2=>simp at h1 h2;subst h1;subst h2;exact .nils
   |n+3,h1,h2=>simp at h1
  ·match j,h with
   |0,h=>simp at h
   |1,h=>simp at h
   |2,h=>simp at h
   |n+3,h=>simp at h
 ·refine (le_open (n:=119) (st:=⟨[Z2h0,Z2h7],[Z2h3 L rn rv out,Z2h4 L,Z2hd nm hd bd]⟩) 10 2 398 (sz:=16) rfl rfl (by simpa using hn) rfl (by simp [mid])).trans ?_
  exact renSt_le (n:=119) (slots:=[0,10]) (tb:=[K0 100000,K1 100001,K0 10,(398,.freeze)]) (st:=⟨[Z2h0,Z2h7],[Z2h3 L rn rv out,Z2h4 L,(10,.var [.str nm,.seq (hd.map Ar.av) false,.row 398 0 (bd.map Li.av).length]),(398,.row 16 (bd.map Li.av))]⟩) (st':=(Z2hk L rn rv out nm hd bd))
   (cs:=[noIdsL (L.map adA)=true∧noIdsL (ixs L.length)=true,(bd.map Li.av).length=(bd.map Li.av).length,noIdsL (bd.map Li.av)=true]) rfl (fun q hq=>by
    simp only [List.mem_cons,List.not_mem_nil,or_false] at hq
    rcases hq with rfl|rfl|rfl
    ·exact ⟨noIdsL_ads L,noIdsL_ixs _⟩
    ·trivial
    ·exact noIdsL_lis bd)
abbrev Z2he (es:List AV):Nat×Ob:=(100000,.var [.own 2 (L.map adA),.map 100001,.tmap (rn.map AV.str) rv,.row 60116 0 es.length])
theorem tail47 (hl:out.length<1000000000):Rz 119 (restC 6 (bodyOf Tryz.f47)) ⟨[Z2h0,Z2h7],wp L (rn.map AV.str) rv out++[Z2hd nm hd bd]⟩ .normal ⟨[],wp L (rn.map AV.str) rv (out++[⟨nm,hd,bd⟩])⟩:=by
 have e:restC 6 (bodyOf Tryz.f47)=regOf Tryz.f47 109:=by kernel_rfl
 rw [e]
 refine Runs.pre ?_ (bodyLe47 L rn rv out nm hd bd)
 have cl:∀(es:List AV),0<es.length→noIdsL es=true→∀{s:St},Rz 119 (regOf Tryz.f47 109) s .normal ⟨[],[Z2he L rn rv es,Z2h4 L,(60116,.row 3 es)]⟩→Rz 119 (regOf Tryz.f47 109) s .normal ⟨[],[(100000,.var [.own 2 (L.map adA),.map 100001,.tmap (rn.map AV.str) rv,.own 3 es]),Z2h4 L]⟩:=by
  intro es h0 h1 s h
  have ht:es.take es.length=es:=List.take_length
  have b:=h.post (le_close (n:=119) (st:=⟨[],[Z2he L rn rv es,Z2h4 L,(60116,.row 3 es)]⟩) 100000 3 60116 (o:= .var [.own 2 (L.map adA),.map 100001,.tmap (rn.map AV.str) rv,.row 60116 0 es.length]) rfl rfl rfl h0 (Nat.le_refl _) (by rw [ht];exact h1) (by simp [mid]))
  rw [ht] at b
  exact b.keepR [] [K0 100000,K1 100001] (cs:=[noIdsL (L.map adA)=true∧noIdsL (ixs L.length)=true]) rfl ⟨⟨noIdsL_ads L,noIdsL_ixs _⟩,trivial⟩
 have e2:wp L (rn.map AV.str) rv (out++[⟨nm,hd,bd⟩])=[(100000,.var [.own 2 (L.map adA),.map 100001,.tmap (rn.map AV.str) rv,.own 3 (out.map Ru.av++[Ru.av ⟨nm,hd,bd⟩])]),Z2h4 L]:=by
  unfold wp;rw [List.map_append];rfl
 rw [e2]
 by_cases hn:out=[]
 ·subst hn
  obtain ⟨e,t,⟨rfl,rfl⟩,h⟩:=r19n L rn rv nm hd bd
  exact (cl [Ru.av ⟨nm,hd,bd⟩] (by simp) (noIdsL_rus' [⟨nm,hd,bd⟩]) h).pre (le_openNil (st:=⟨[Z2h0,Z2h7],[(100000,.var [.own 2 (L.map adA),.map 100001,.tmap (rn.map AV.str) rv,.own 3 []]),Z2h4 L,Z2hc nm hd bd]⟩) 100000 3 (sz:=3) rfl rfl)
 ·obtain ⟨e,t,⟨rfl,rfl⟩,h⟩:=r19r L rn rv out nm hd bd (ok_rus out) hl
  have e3:(out.map Ru.av).length+1=(out.map Ru.av++[AV.agg [.str nm,.seq (hd.map Ar.av) false,.seq (bd.map Li.av) false]]).length:=by simp
  rw [e3] at h
  exact (cl _ (by simp) (by rw [noIdsL_app,noIdsL_rus'];exact noIdsL_rus' [⟨nm,hd,bd⟩]) h).pre (le_open (st:=(Z2hk L rn rv out nm hd bd)) 100000 3 60500 (sz:=3) rfl rfl (by simpa using hn) rfl (by simp [mid]))
theorem blk5 {S S':St} (h:Lo 119 (loopOf Tryz.f47 1) S (.exit 2) S'):Rz 119 (partC 5 (bodyOf Tryz.f47)) S .normal S':=by
 have e5:partC 5 (bodyOf Tryz.f47)= .block 2 (.loop (loopOf Tryz.f47 1)):=by kernel_rfl
 rw [e5];exact (Loops.runs h).exitBlk
theorem mid47 (hrv:RV rn rv) (hbd:bd.length≤16) (hT:tinyB bd) (hn:∀y,y∈bd→(y.k=1∨y.k=2)→y.p.size≤120) (hks:ks.length≤24) (hL:L.length<999000) (hl:out.length<1000000000):
  ∃(L':List Ad) (body:List Li),Steps rn L ks bd L' body∧Rz 119 (restC 4 (bodyOf Tryz.f47)) ⟨[Z2h0,Z2h1 p hd bd,(6,kW ks),Z2h7],wp L (rn.map AV.str) rv out++(kP ks++[Z2h8 nm hd])⟩ .normal ⟨[],wp L' (rn.map AV.str) rv (out++[⟨nm,hd,body⟩])⟩:=by
 by_cases hb:bd=[]
 ·subst hb
  refine ⟨L,[],.nil L ks,?_⟩
  have k82':Sp 82 [.seq (([]:List Li).map Li.av) false] [] (.seq (([]:List Li).map Li.av) false) []:=k82 [] (by simp)
  cases ks with
  |nil=>
   obtain ⟨e,t,⟨rfl,rfl⟩,r4⟩:=w47fn L rn rv out p nm hd [] k82'
   obtain ⟨e,t,⟨rfl,rfl⟩,z⟩:=z47en L rn rv out p nm hd []
   have r5:=blk5 (Loops.leave z (by simp))
   exact Runs.nth 4 (by kernel_rfl) r4 (Runs.nth 5 (by kernel_rfl) r5 (tail47 L rn rv out nm hd [] hl))
  |cons k0 kr=>
   obtain ⟨e,t,⟨rfl,rfl⟩,r4⟩:=w47fr L rn rv out p nm hd [] (k0::kr) k82'
   obtain ⟨e,t,⟨rfl,rfl⟩,z⟩:=z47er L rn rv out p nm hd [] (k0::kr)
   have r5:=blk5 (Loops.leave z (by simp))
   exact Runs.nth 4 (by kernel_rfl) r4 (Runs.nth 5 (by kernel_rfl) r5 (tail47 L rn rv out nm hd [] hl))
 ·have k82':=k82r bd hb (by omega)
  obtain ⟨L',body,hs,hL'⟩:=l47_1 rn rv out nm hd hrv bd.length L bd [] ks rfl (by omega) hT hn (by simp;omega) (by omega) (by omega)
  refine ⟨L',body,hs,?_⟩
  have r5:=blk5 hL'
  have r6:=Runs.nth 5 (by kernel_rfl) r5 (tail47 L' rn rv out nm hd body hl)
  cases ks with
  |nil=>
   obtain ⟨e,t,⟨rfl,rfl⟩,r4⟩:=w47en L rn rv out p nm hd bd k82'
   exact Runs.nth 4 (by kernel_rfl) r4 r6
  |cons k0 kr=>
   obtain ⟨e,t,⟨rfl,rfl⟩,r4⟩:=w47er L rn rv out p nm hd bd (k0::kr) k82'
   exact Runs.nth 4 (by kernel_rfl) r4 r6
def headK (s:ByteArray) (hd:List Ar) (ks:List ByteArray):Prop:=∀v,v∈ks↔∃(j:Nat) (y:Ar),hd[j]? =some y∧bat s j∧y.t.v=v∧v≠⟨#[]⟩
abbrev Z2hf (a:Ad):Nat×Ob:=(10,.var [.str (nameT a.1 a.2),.seq (hd.map Ar.av) false,.nils])
abbrev Z2hg (a:Ad):Nat×Ob:=(10,.var [.str (nameT a.1 a.2),.seq (hd.map Ar.av) false,.own 16 []])
theorem k47 (a:Ad) (hrv:RV rn rv) (hs:smallR p hd bd) (hpl:a.2.size=hd.length) (hp:a.1.size≤120) (hL:L.length<999000) (hl:out.length<1000000000):
  ∃(ks:List ByteArray) (L':List Ad) (body:List Li),headK a.2 hd ks∧Steps rn L ks bd L' body∧Sp 47 [.elt 100000 0 0,.agg [.str p,.seq (hd.map Ar.av) false,.seq (bd.map Li.av) false],.agg [.str a.1,.str a.2]] (wp L (rn.map AV.str) rv out) (.tup []) (wp L' (rn.map AV.str) rv (out++[⟨nameT a.1 a.2,hd,body⟩])):=by
 obtain ⟨_,hs1,hs2,hs3,hs40⟩:=hs
 have hs4:∀y,y∈bd→(y.k=1∨y.k=2)→y.p.size≤120:=fun y hy=>(hs40 y hy).1
 obtain ⟨ks,hL0,hk1,hk2⟩:=l47_0 L a (rn.map AV.str) rv out p hd bd hs1 hpl
 obtain ⟨L',body,hst,r4⟩:=mid47 L rn rv out p (nameT a.1 a.2) hd bd ks hrv hs2 (tinyB_of hs3) hs4 (by omega) hL hl
 refine ⟨ks,L',body,hk2,hst,?_⟩
 obtain ⟨e,t,⟨rfl,rfl⟩,r0⟩:=w47a L a (rn.map AV.str) rv out p hd bd
 obtain ⟨e,t,⟨rfl,rfl⟩,r1⟩:=w47d L rn rv out p (nameT a.1 a.2) hd bd a
 have fin:Rz 119 (restC 2 (bodyOf Tryz.f47)) ⟨[Z2h0,Z2h1 p hd bd,Z2h2 a,(6,.nils)],[Z2h3 L rn rv out,Z2h4 L]⟩ .normal ⟨[],wp L' (rn.map AV.str) rv (out++[⟨nameT a.1 a.2,hd,body⟩])⟩→Sp 47 [.elt 100000 0 0,.agg [.str p,.seq (hd.map Ar.av) false,.seq (bd.map Li.av) false],.agg [.str a.1,.str a.2]] (wp L (rn.map AV.str) rv out) (.tup []) (wp L' (rn.map AV.str) rv (out++[⟨nameT a.1 a.2,hd,body⟩])):=fun h=>
  sG Tryz.f47 (obs_wp L (rn.map AV.str) rv out) (Runs.nth 0 (by kernel_rfl) r0 (Runs.nth 1 (by kernel_rfl) r1 h)) (.inl rfl)
 apply fin
 cases ks with
 |nil=>
  obtain ⟨e,t,⟨rfl,rfl⟩,r2⟩:=w47bn L a (rn.map AV.str) rv out p hd bd hL0
  obtain ⟨e,t,⟨rfl,rfl⟩,r3⟩:=w47cn L a (rn.map AV.str) rv out p hd bd hs1 (by omega) (by omega)
  have r3a:=r3.post (le_closeNil (n:=119) (st:=⟨[Z2h0,Z2h1 p hd bd,(6,.nils),Z2h7],[Z2h3 L rn rv out,Z2h4 L,Z2hf hd a]⟩) 10 2 16 rfl rfl)
  have r3b:=r3a.post (le_nilC (n:=119) (st:=⟨[Z2h0,Z2h1 p hd bd,(6,.nils),Z2h7],[Z2h3 L rn rv out,Z2h4 L,Z2hg hd a]⟩) 6 rfl)
  have r3c:=r3b.keepR [0,4,6,10] [K0 100000,K1 100001,K0 10] (st':=⟨[Z2h0,Z2h1 p hd bd,Z2h6,Z2h7],[Z2h3 L rn rv out,Z2h4 L,Z2hg hd a]⟩) (cs:=[noIdsL (L.map adA)=true∧noIdsL (ixs L.length)=true]) rfl ⟨⟨noIdsL_ads L,noIdsL_ixs _⟩,trivial⟩
  exact Runs.nth 2 (by kernel_rfl) r2 (Runs.nth 3 (by kernel_rfl) r3c r4)
 |cons k0 kr=>
  obtain ⟨e,t,⟨rfl,rfl⟩,r2⟩:=w47br L a (rn.map AV.str) rv out p hd bd (k0::kr) hL0
  obtain ⟨e,t,⟨rfl,rfl⟩,r3⟩:=w47cr L a (rn.map AV.str) rv out p hd bd (k0::kr) hs1 (by omega) (by omega)
  have r3a:=r3.post (le_closeNil (n:=119) (st:=⟨[Z2h0,Z2h1 p hd bd,(6,.row 143 0 ((k0::kr).map AV.str).length),Z2h7],[Z2h3 L rn rv out,Z2h4 L,(143,.row 1 ((k0::kr).map AV.str)),Z2hf hd a]⟩) 10 2 16 rfl rfl)
  exact Runs.nth 2 (by kernel_rfl) r2 (Runs.nth 3 (by kernel_rfl) r3a r4)
end
end Go.Ped
