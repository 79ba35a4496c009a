/- What the functions of the packages term and check answer is proved for every input. -/
import Derived.WalkKit
import Derived.ProofKit
import Derived.OpenShut
import Derived.Deep.DeepHandedRow
import Derived.Deep.Slices
import Derived.Lib.LaidTab
import Derived.Carry
import Derived.SizedLaws
import Derived.Test.YthhfolohakiemaaGreatDoorMagH
import Derived.Test.YthhfolohakiemaaGreatDoorMagI
import Derived.Test.YthhfolohakiemaaGreatDoorMagJ
set_option linter.all false
set_option maxRecDepth 20000
set_option maxHeartbeats 800000
namespace Go.Ped
open Go.RowKit Go.Proofs
section
variable (b:List Li) (x:Ex) (i0:Nat) (y:Ex) (F vs:List ByteArray)
def bT (l m:List ByteArray):Bool:=l.all fun v=>bq v m
def gp (x:Ex):Bool:=decide (x.op=0)&&decide (x.ax.length=0)&& !decide (x.t.v=⟨#[]⟩)&& !decide (x.t.v=⟨#[95]⟩)
def dn (x:Ex):ByteArray:=if gp x=true then x.t.v else ⟨#[]⟩
abbrev Lc (l m:List ByteArray) (i:Int):St:=⟨[(0,sS l),(1,sS m),(5,sI i)],[]⟩
attribute [local simp,local grind] dn gp in
theorem Pu:En 28 (ai Tryz.f284) (⟨[(0,.al x.ac)],[]⟩) (fun eo so=>eo= .aR∧∃(v:ByteArray) (b:Bool),so=⟨[(2,.J v),(3,.ak b)],[]⟩∧v=dn x∧b=gp x):=aS Tryz.f284 0 [2,3]
theorem Px:Sp 284 [.al x.ac] [] (.bC [.J (dn x),.ak (gp x)]) []:=by
 obtain ⟨_,_,⟨rfl,_,_,rfl,rfl,rfl⟩,h⟩:=Pu x
 exact sP Tryz.f284 (by simp [aa,←Ex.de,cZ]) h (.inr rfl)
attribute [local simp,local grind] ku in
attribute [local simp,local grind] bT in
theorem C9 (l m:List ByteArray):Sp 229 [sS l,sS m] [] (.ak ((bT l m))) []:=by
 refine bK.dY (l.map AV.J) ⟨_,by simp,false,.inl rfl⟩ fun hsm=> ?_
 have q0:List.length (l.map AV.J)≤9223372036854775807:=(Nat.le_trans hsm (by simp [maxLen]))
 have o0:=fun (hsm:l.length≤9223372036854775807)=>bN (P:=Tryz.prog) (n:=19) (c:=O Tryz.f229 0) (k:=0) (l:=l) (fun i=>Lc l m (i:Nat)) ⟨[],[]⟩ (fun rb:Bool=>⟨[(4,.ak rb)],[]⟩) (ku fun v=>bq v m) (fun i hi=>aZ Tryz.f229 0 [0,1,5] [4]) (au Tryz.f229 0)
 exact aL Tryz.f229 0 19
@[reducible,instance] def VG (l m:List ByteArray):=kT (C9 l m)
def ge (x y:Ex) (F:List ByteArray):Bool:=gp x&& !bq (dn x) F&&bT (ay y.af) F
def gn (x y:Ex) (F:List ByteArray):ByteArray:=if ge x y F=true then dn x else ⟨#[]⟩
abbrev Lb:Nat×AV:=(6,.J (ByteArray.mk #[]))
theorem Pt (hy:y.af.length<2199023255552):En 29 (ai Tryz.f266) (⟨[(0,.al x.ac),(1,.al y.ac),(2,sS F)],[]⟩) (fun eo so=>eo= .aR∧∃(v:ByteArray) (b:Bool),so=⟨[(6,.J v),(7,.ak b)],[]⟩∧v=gn x y F∧b=ge x y F):=by
 have hs0:=Px x
 refine z0<|zc hs0<|?_
 cases hb1:gp x with
 |true=>
  rw [hb1] at hs0
  have hs2:=C0 (dn x) (F)
  cases hb3:bq (dn x) F with
  |true=>
   rw [hb3] at hs2
   exact zc hs2<|zq (s:=St.mk [Lb,(7,.ak false)] []) ⟨rfl,_,_,rfl,by grind [gn,ge],by grind [ge]⟩
  |false=>
   rw [hb3] at hs2
   have hs5:=C9 (ay (Ex.af y)) (F)
   refine zc hs2<|zc (Jk y (by assumption))<|zc hs5<|?_
   cases hb6:bT (ay (Ex.af y)) F with
   |true=>
    rw [hb6] at hs5
    exact zq (s:=St.mk [(6,.J (dn x)),(7,.ak true)] []) ⟨rfl,_,_,rfl,by grind [gn,ge],by grind [ge]⟩
   |false=>
    rw [hb6] at hs5
    exact zq (s:=St.mk [Lb,(7,.ak false)] []) ⟨rfl,_,_,rfl,by grind [gn,ge],by grind [ge]⟩
 |false=>
  rw [hb1] at hs0
  exact zq (s:=St.mk [Lb,(7,.ak false)] []) ⟨rfl,_,_,rfl,by grind [gn,ge],by grind [ge]⟩
theorem Pw (hy:y.af.length<2199023255552):Sp 266 [.al x.ac,.al y.ac,sS F] [] (.bC [.J (gn x y F),.ak (ge x y F)]) []:=by
 obtain ⟨_,_,⟨rfl,_,_,rfl,rfl,rfl⟩,h⟩:=Pt x y F hy
 exact sP Tryz.f266 (by have h1:=cZ x;have h2:=cZ y;rw [Ex.de] at h1 h2;simp only [aa,h1,h2];rfl) h (.inr rfl)
theorem Jl (hy:y.af.length<2199023255552) (id n:Nat) (hn:n=F.length):Sp 266 [.al x.ac,.al y.ac,.aO id n] [(id,.ao 1 (F.map .J))] (.bC [.J (gn x y F),.ak (ge x y F)]) []:=
 bK.fi (Pw x y F hy) [(id,.ao 1 (F.map .J))] rfl (by simp [dl]) (by have h1:=gu (dK [(id,.ao 1 (F.map AV.J))]) _ (cZ x);have h2:=gu (dK [(id,.ao 1 (F.map AV.J))]) _ (cZ y);rw [Ex.de] at h1 h2;simp only [bW,h1,h2];simp [dB,dK,eX,ae]) (by
  have h1:=ja (dK [(id,.ao 1 (F.map AV.J))]) _ (cZ x);have h2:=ja (dK [(id,.ao 1 (F.map AV.J))]) _ (cZ y);rw [Ex.de] at h1 h2;simp only [cu,h1,h2];simp [el,dK,eX,ae,hn]) rfl
def ll (F:List ByteArray) (y:Li):List ByteArray:=if y.k=1 then (ay y.ts).foldl ec F else F
theorem om (l:List ByteArray):∀F,(l.foldl ec F).length≤F.length+l.length:=by
 induction l with
 |nil=>intro F;simp
 |cons y r ih=>intro F;have h1:=ih (ec F y);have h2:=kv F y;simp only [List.foldl_cons,List.length_cons];omega
abbrev Gd (a:List ByteArray):List (Nat×Ob):=[(1000,.ao 1 (a.map .J))]
abbrev nf (b:List Li) (i0:Nat) (vs:List ByteArray) (a:List ByteArray) (i:Int):St:=⟨[(0,sL b),(3,.aO 1000 a.length),(4,sI i0),(5,sS vs),(6,sI i)],(Gd a)⟩
theorem Da (b:List Li) (i0:Nat) (vs:List ByteArray) (B:Nat) (hB:B<2199023255552) (hvs:vs.length<2199023255552) (a:List ByteArray) (i:Nat) (hi:i<vs.length) (hI:a.length+(vs.length-i)≤B):En 46 (O Tryz.f236 1) ((nf b i0 vs a (i:Nat))) (fun eo so=>eo= .aj∧∃y,vs[i]? =some y∧so=nf b i0 vs ((fun a y=>ec a y) a y) ((i+1:Nat):Int)):=by
 obtain ⟨x0,hm0,hx0⟩:=dC AV.J (l:=vs) (n:=(↑i:Int)) (by omega) (by omega)
 have hs1:=Jh x0 a 1000 (List.length a) (by omega)
 have u0:decide ((↑i:Int)<(↑(List.length (List.map AV.J vs)):Int))=true:=by simp;omega
 have u1:IntKind.wrap .i64 ((↑i:Int)+1)=(↑i:Int)+1:=bA (by omega) (by omega)
 refine zs 2000<|zt u0<|ze hx0<|zc hs1<|?_
 cases hb2:bq x0 a with
 |true=>
  rw [hb2] at hs1
  exact zh u1<|zh (zN (a.map AV.J))<|zq (s:=St.mk [(0,sL b),(3,AV.aO 1000 (List.length a)),(4,sI (↑i0:Int)),(5,sS vs),(6,sI ((↑i:Int)+1))] [(1000,Ob.ao 1 (List.map AV.J a))]) ⟨rfl,_,hm0,by (simp_all [ec,bq])⟩
 |false=>
  rw [hb2] at hs1
  exact ze hx0<|zh (rZ 1 16 [.J x0] (List.length a) (List.map AV.J a))<|zh u1<|zh (zN (List.map AV.J a++[.J x0]))<|zd (.is true)<|zq (s:=St.mk [(0,sL b),(3,AV.aO 1000 (List.length a+List.length [AV.J x0])),(4,sI (↑i0:Int)),(5,sS vs),(6,sI ((↑i:Int)+1))] [(1000,Ob.ao 1 (List.map AV.J a++[AV.J x0]))]) ⟨rfl,_,hm0,by (simp_all [ec,bq])⟩ (tb:=[(2044,.a6 1000 true)])
theorem C7 (B:Nat) (hB:B<2199023255552) (hvs:vs.length<2199023255552) (a:List ByteArray) (hI:a.length+(vs.length-vs.length)≤B):En 46 (O Tryz.f236 1) ((nf b i0 vs a (vs.length:Nat))) (fun eo so=>eo= .ar 2∧so=⟨[(0,sL b),(3,.aO 1000 a.length),(4,sI i0)],(Gd a)⟩):=au Tryz.f236 2000
theorem C' (B:Nat) (hB:B<2199023255552) (hvs:vs.length<2199023255552) (a0:List ByteArray) (h0:a0.length+(vs.length-0)≤B):Lo 46 (O Tryz.f236 1) (nf b i0 vs a0 0) (.ar 2) ⟨[(0,sL b),(3,.aO 1000 (vs.foldl (fun a y=>ec a y) a0).length),(4,sI i0)],[(1000,.ao 1 ((vs.foldl (fun a y=>ec a y) a0).map .J))]⟩:=
 (be (l:=vs) (fun i a=>nf b i0 vs a (i:Nat)) (fun a=>⟨[(0,sL b),(3,.aO 1000 a.length),(4,sI i0)],(Gd a)⟩) (fun a y=>ec a y) (fun i a=>a.length+(vs.length-i)≤B) (fun i a hi hI=>Da b i0 vs B hB hvs a i hi hI) (fun i a y hy hI=>by (have:=kv a y;have:=(List.getElem?_eq_some_iff.1 hy).1;omega)) (fun a hI=>C7 b i0 vs B hB hvs a hI) a0 h0).1
theorem Gh (a0:List ByteArray) (h:a0.length+vs.length<2199023255552):Lo 46 (O Tryz.f236 1) ⟨[(0,sL b),(3,.aO 1000 a0.length),(4,sI i0),(5,sS vs),(6,sI 0)],[(1000,.ao 1 (a0.map .J))]⟩ (.ar 2) ⟨[(0,sL b),(3,.aO 1000 (vs.foldl ec a0).length),(4,sI i0)],[(1000,.ao 1 ((vs.foldl ec a0).map .J))]⟩:=
 C' b i0 vs (a0.length+vs.length) h (by omega) a0 (by omega)
theorem zH {l:List Li} {i:Nat} {y:Li} (h:l[i]? =some y):(ay y.ts).length+(az (l.drop (i+1))).length≤(az (l.drop i)).length:=by
 have:=ea h
 have:=bU y.ts
 simp only [Li.af,List.length_append] at*
 omega
abbrev uE (b:List Li) (a:List ByteArray) (i:Int):St:=⟨[(0,sL b),(3,.aO 1000 a.length),(4,sI i)],(Gd a)⟩
theorem Gj (hsm:b.length≤9223372036854775807) (B:Nat) (hB:B<2199023255552) (hb:(az b).length≤B) (a:List ByteArray) (i:Nat) (hi:i<b.length) (hI:a.length+(az (b.drop i)).length≤B):En 46 (O Tryz.f236 0) ((uE b a (i:Nat))) (fun eo so=>eo= .aj∧∃y,b[i]? =some y∧so=uE b (ll a y) ((i+1:Nat):Int)):=by
 obtain ⟨x0,hm0,hx0⟩:=dC Li.av (l:=b) (n:=(↑i:Int)) (by omega) (by omega)
 have u0:decide ((↑i:Int)<(↑(List.length (List.map Li.av b)):Int))=true:=by simp;omega
 have u1:=zN (List.map AV.J a)
 have u2:IntKind.wrap .i64 ((↑i:Int)+1)=(↑i:Int)+1:=bA (by omega) (by omega)
 refine zs 2000<|zt u0<|ze hx0<|?_
 rcases CI (decide (Li.k x0=1)) with h1|h1
 ·have hs2:=Pq x0.2 x0.3 (by have hq:=hm0;rw [Int.toNat_natCast] at hq;have:=ea hq;simp only [Li.af,List.length_append] at*;omega)
  exact zf (nF h1)<|ze hx0<|zh hs2<|zh u1<|zh (Gh b i (ay x0.3) (a) (by have hq:=hm0;rw [Int.toNat_natCast] at hq;have:=zH hq;have:=ea hq;have:=bU x0.3;omega))<|zh u2<|zh (zN (List.map AV.J (List.foldl ec a (ay x0.3))))<|zd (.dO (sS (ay x0.3)) [] [])<|zd (.g8 [0,3,4,5,6] [K1 1000])<|zd (.B3 (.ar 2) [(0,sL b),(3,.aO 1000 (List.length (List.foldl ec a (ay x0.3)))),(4,sI (i:Int))] [(1000,.ao 1 (List.map AV.J (List.foldl ec a (ay x0.3))))])<|zq (s:=St.mk [(0,sL b),(3,.aO 1000 (List.length (List.foldl ec a (ay x0.3)))),(4,sI ((i:Int)+1))] [(1000,.ao 1 (List.map AV.J (List.foldl ec a (ay x0.3))))]) ⟨rfl,_,hm0,by (simp_all [ll])⟩
 ·exact zt (nT h1)<|zh u2<|zh u1<|zq (s:=St.mk [(0,sL b),(3,.aO 1000 a.length),(4,sI ((i:Int)+1))] [(1000,.ao 1 (a.map AV.J))]) ⟨rfl,_,hm0,by (simp_all [ll])⟩
abbrev Ps (a:List ByteArray):St:=⟨[(3,.aO 1000 a.length)],[(1000,.ao 1 (a.map .J))]⟩
theorem Gf (hsm:b.length≤9223372036854775807) (B:Nat) (hB:B<2199023255552) (hb:(az b).length≤B) (a:List ByteArray) (hI:a.length+(az (b.drop b.length)).length≤B):En 46 (O Tryz.f236 0) ((uE b a (b.length:Nat))) (fun eo so=>eo= .ar 0∧so=(Ps a)):=au Tryz.f236 2000
theorem Gg (hsm:b.length≤9223372036854775807) (B:Nat) (hB:B<2199023255552) (hb:(az b).length≤B):Lo 46 (O Tryz.f236 0) ⟨[(0,sL b),(3,.ab),(4,sI 0)],[]⟩ (.ar 0) ⟨[(3,.aO 1000 (b.foldl ll []).length)],[(1000,.ao 1 ((b.foldl ll []).map .J))]⟩:=
 (be (l:=b) (fun i a=>uE b a (i:Nat)) (fun a=>(Ps a)) ll (fun i a=>a.length+(az (b.drop i)).length≤B) (fun i a hi hI=>Gj b hsm B hB hb a i hi hI) (fun i a y hy hI=>by (have:=zH hy;have:=ea hy;have:=om (ay y.ts) a;unfold ll;split<;>omega)) (fun a hI=>Gf b hsm B hB hb a hI) [] (by simp<;>assumption)).1.ez (b5 3 1000 1 rfl rfl)
def iN (b:List Li):List ByteArray:=b.foldl ll []
theorem Pv (h:(az b).length<2199023255552):Sp 236 [sL b] [] (.aO 1236 (iN b).length) [(1236,.ao 1 ((iN b).map .J))]:=by
 refine bK.dY (b.map Li.av) ⟨_,List.mem_cons_self ..,false,.inl rfl⟩ fun hk=> ?_
 have y0r:=(Gg b (by simpa [maxLen] using hk) _ h (Nat.le_refl _))
 exact aG Tryz.f236 2000 46 (fun _ _ h=>by cases h) (pre:=[]) (args:=[sL b])
@[reducible,instance] def VH (b:List Li):=kF (Pv b)
def eu (F:List ByteArray) (y:Li):List ByteArray:=
 if y.k≠3∨y.jR≠1 then F else if ge y.l y.r F=true then F++[gn y.l y.r F] else if ge y.r y.l F=true then F++[gn y.r y.l F] else F
theorem Bd (y:Li):(eu F y).length≤F.length+1:=by unfold eu;split<;>(try split)<;>(try split)<;>simp
abbrev qJ (b:List Li) (N:Int) (a:List ByteArray) (i:Int):St:=⟨[(0,sL b),(3,.aO 1236 a.length),(4,sI N),(5,sI i)],[(1236,.ao 1 (a.map .J))]⟩
theorem Gi (b:List Li) (N:Int) (hsm:b.length<1000000) (hsz:∀y,y∈b→y.l.af.length<2199023255552∧y.r.af.length<2199023255552) (a:List ByteArray) (i:Nat) (hi:i<b.length) (hI:a.length<1000000000+i):En 61 (O Tryz.f230 1) ((qJ b N a (i:Nat))) (fun eo so=>eo= .aj∧∃y,b[i]? =some y∧so=qJ b N (eu a y) ((i+1:Nat):Int)):=by
 obtain ⟨x0,hm0,hx0⟩:=dC Li.av (l:=b) (n:=(↑i:Int)) (by omega) (by omega)
 have u0:decide ((↑i:Int)<(↑(List.length (List.map Li.av b)):Int))=true:=by simp;omega
 have u3:IntKind.wrap .i64 ((↑i:Int)+1)=(↑i:Int)+1:=bA (by omega) (by omega)
 have u4:=zN (List.map AV.J a)
 refine zs 2000<|zt u0<|ze hx0<|?_
 rcases CI (decide (Li.k x0=3)) with h1|h1
 ·have u1:(!decide (Li.k x0=3))=false:=(by rw [h1];rfl)
  rcases CI (decide (Li.jR x0=1)) with h2|h2
  ·have hs3:=Jl (Li.l x0) (Li.r x0) (a) (by have hq:=List.mem_of_getElem? hm0;have:=hsz _ hq;omega) (1236) (List.length a) (by omega)
   have u2:(!decide (Li.jR x0=1))=false:=(by rw [h2];rfl)
   refine zf u1<|zf u2<|zh hs3<|?_
   cases hb4:ge (Li.l x0) (Li.r x0) a with
   |true=>
    rw [hb4] at hs3
    exact zh (rZ 1 16 [.J (gn (Li.l x0) (Li.r x0) a)] (List.length a) (List.map AV.J a))<|zh u3<|zh (zN (List.map AV.J a++[.J (gn (Li.l x0) (Li.r x0) a)]))<|zd (.dO (.bC [.J (gn (Li.l x0) (Li.r x0) a),.ak true]) [1236] [])<|zd (.is true)<|zq (s:=St.mk [(0,sL b),(3,AV.aO 1236 (List.length a+List.length [AV.J (gn (Li.l x0) (Li.r x0) a)])),(4,sI N),(5,sI ((↑i:Int)+1))] [(1236,Ob.ao 1 (List.map AV.J a++[AV.J (gn (Li.l x0) (Li.r x0) a)]))]) ⟨rfl,_,hm0,by (first|(simp_all [eu];done)|grind [eu])⟩ (tb:=[(2055,.a6 1236 true)])
   |false=>
    rw [hb4] at hs3
    have hs5:=Jl (Li.r x0) (Li.l x0) (a) (by have hq:=List.mem_of_getElem? hm0;have:=hsz _ hq;omega) (1236) (List.length a) (by omega)
    cases hb6:ge (Li.r x0) (Li.l x0) a with
    |true=>
     rw [hb6] at hs5
     exact zh hs5<|zh (rZ 1 16 [.J (gn (Li.r x0) (Li.l x0) a)] (List.length a) (List.map AV.J a))<|zh u3<|zh (zN (List.map AV.J a++[.J (gn (Li.r x0) (Li.l x0) a)]))<|zd (.dO (.bC [.J (gn (Li.l x0) (Li.r x0) a),.ak false]) [1236] [])<|zd (.dO (.bC [.J (gn (Li.r x0) (Li.l x0) a),.ak true]) [1236] [])<|zd (.is true)<|zq (s:=St.mk [(0,sL b),(3,AV.aO 1236 (List.length a+List.length [AV.J (gn (Li.r x0) (Li.l x0) a)])),(4,sI N),(5,sI ((↑i:Int)+1))] [(1236,Ob.ao 1 (List.map AV.J a++[AV.J (gn (Li.r x0) (Li.l x0) a)]))]) ⟨rfl,_,hm0,by (first|(simp_all [eu];done)|grind [eu])⟩ (tb:=[(2055,.a6 1236 true)])
    |false=>
     rw [hb6] at hs5
     exact zh hs5<|zh u3<|zh u4<|zd (.dO (.bC [.J (gn (Li.l x0) (Li.r x0) a),.ak false]) [1236] [])<|zd (.dO (.bC [.J (gn (Li.r x0) (Li.l x0) a),.ak false]) [1236] [])<|zq (s:=St.mk [(0,sL b),(3,AV.aO 1236 (List.length a)),(4,sI N),(5,sI ((↑i:Int)+1))] [(1236,Ob.ao 1 (List.map AV.J a))]) ⟨rfl,_,hm0,by (first|(simp_all [eu];done)|grind [eu])⟩
  ·exact zf u1<|zt (nT h2)<|zh u3<|zh u4<|zq (s:=St.mk [(0,sL b),(3,AV.aO 1236 (List.length a)),(4,sI N),(5,sI ((↑i:Int)+1))] [(1236,Ob.ao 1 (List.map AV.J a))]) ⟨rfl,_,hm0,by (first|(simp_all [eu];done)|grind [eu])⟩
 ·exact zt (nT h1)<|zh u3<|zh u4<|zq (s:=St.mk [(0,sL b),(3,AV.aO 1236 (List.length a)),(4,sI N),(5,sI ((↑i:Int)+1))] [(1236,Ob.ao 1 (List.map AV.J a))]) ⟨rfl,_,hm0,by (first|(simp_all [eu];done)|grind [eu])⟩
theorem Ge (N:Int) (hsm:b.length<1000000) (hsz:∀y,y∈b→y.l.af.length<2199023255552∧y.r.af.length<2199023255552) (a:List ByteArray) (hI:a.length<1000000000+b.length):En 61 (O Tryz.f230 1) ((qJ b N a (b.length:Nat))) (fun eo so=>eo= .ar 2∧so=⟨[(0,sL b),(3,.aO 1236 a.length),(4,sI N)],[(1236,.ao 1 (a.map .J))]⟩):=au Tryz.f230 2000
theorem zI (N:Int) (hsm:b.length<1000000) (hsz:∀y,y∈b→y.l.af.length<2199023255552∧y.r.af.length<2199023255552) (a0:List ByteArray) (h0:a0.length<1000000000+0):Lo 61 (O Tryz.f230 1) (qJ b N a0 0) (.ar 2) ⟨[(0,sL b),(3,.aO 1236 (b.foldl eu a0).length),(4,sI N)],[(1236,.ao 1 ((b.foldl eu a0).map .J))]⟩:=
 (be (l:=b) (fun i a=>qJ b N a (i:Nat)) (fun a=>⟨[(0,sL b),(3,.aO 1236 a.length),(4,sI N)],[(1236,.ao 1 (a.map .J))]⟩) eu (fun i a=>a.length<1000000000+i) (fun i a hi hI=>Gi b N hsm hsz a i hi hI) (fun i a y hy hI=>by (have:=Bd a y;omega)) (fun a hI=>Ge b N hsm hsz a hI) a0 h0).1
end
section
variable (b:List Li)
inductive qK (b:List Li):ByteArray→Prop where
 |wr (y:Li) (hy:y∈b) (hk:y.k=1) (v:ByteArray) (hv:v∈ay y.ts):qK b v
 |yd (y:Li) (hy:y∈b) (hk:y.k=3) (hr:y.jR=1) (hl:gp y.l=true) (hw:∀w,w∈ay y.r.af→qK b w):qK b (dn y.l)
 |qL (y:Li) (hy:y∈b) (hk:y.k=3) (hr:y.jR=1) (hl:gp y.r=true) (hw:∀w,w∈ay y.l.af→qK b w):qK b (dn y.r)
theorem gw (l:List ByteArray):∀(F:List ByteArray) (v:ByteArray),v∈l.foldl ec F↔v∈F∨v∈l:=by
 induction l with
 |nil=>intro F v;simp
 |cons y r ih=>
  intro F v
  rw [List.foldl_cons,ih]
  unfold ec
  split
  ·rename_i h
   constructor
   ·rintro (h1|h1);exact .inl h1;exact .inr (List.mem_cons_of_mem _ h1)
   ·rintro (h1|h1)
    ·exact .inl h1
    ·rcases List.mem_cons.1 h1 with rfl|h1;exact .inl h;exact .inr h1
  ·simp only [List.mem_append,List.mem_singleton,List.mem_cons,List.not_mem_nil,or_assoc,false_or]
theorem tp (v:ByteArray):v∈iN b↔∃y,y∈b∧y.k=1∧v∈ay y.ts:=by
 have go:∀(b:List Li) (F:List ByteArray),v∈b.foldl ll F↔v∈F∨∃y,y∈b∧y.k=1∧v∈ay y.ts:=by
  intro b
  induction b with
  |nil=>intro F;simp
  |cons y r ih=>
   intro F
   rw [List.foldl_cons,ih]
   unfold ll
   split
   ·rename_i hk
    rw [gw]
    constructor
    ·rintro ((h|h)|⟨z,h1,h2⟩)
     ·exact .inl h
     ·exact .inr ⟨y,by simp,hk,h⟩
     ·exact .inr ⟨z,by simp [h1],h2⟩
    ·rintro (h|⟨z,h1,h2,h3⟩)
     ·exact .inl (.inl h)
     ·rcases List.mem_cons.1 h1 with rfl|h1
      ·exact .inl (.inr h3)
      ·exact .inr ⟨z,h1,h2,h3⟩
   ·rename_i hk
    constructor
    ·rintro (h|⟨z,h1,h2⟩);exact .inl h;exact .inr ⟨z,by simp [h1],h2⟩
    ·rintro (h|⟨z,h1,h2,h3⟩)
     ·exact .inl h
     ·rcases List.mem_cons.1 h1 with rfl|h1
      ·exact absurd h2 hk
      ·exact .inr ⟨z,h1,h2,h3⟩
 simpa [iN] using go b []
theorem tq {x y:Ex} {F:List ByteArray} (h:ge x y F=true):gp x=true∧dn x∉F∧(∀w,w∈ay y.af→w∈F)∧gn x y F=dn x:=by
 have hv:gn x y F=dn x:=if_pos h
 simp only [ge,Bool.and_eq_true,Bool.not_eq_true',bq,decide_eq_false_iff_not,bT,List.all_eq_true,decide_eq_true_eq] at h
 exact ⟨h.1.1,h.1.2,h.2,hv⟩
theorem pE {x y:Ex} {F:List ByteArray} (h:ge x y F=false) (h1:gp x=true) (h2:∀w,w∈ay y.af→w∈F):dn x∈F:=by
 refine Decidable.byContradiction fun hn=> ?_
 have:ge x y F=true:=by
  simp only [ge,Bool.and_eq_true,Bool.not_eq_true',bq,decide_eq_false_iff_not,bT,List.all_eq_true,decide_eq_true_eq]
  exact ⟨⟨h1,hn⟩,h2⟩
 rw [h] at this;cases this
def Uh (b:List Li):List ByteArray:=b.flatMap fun y=>[dn y.l,dn y.r]
def tn (b:List Li) (F:List ByteArray):Nat:=((Uh b).filter fun v=>decide (v∉F)).length
theorem Be {C:List ByteArray} {F:List ByteArray} {v:ByteArray} (hv:v∈C) (hn:v∉F):(C.filter fun w=>decide (w∉F++[v])).length<(C.filter fun w=>decide (w∉F)).length:=by
 induction C with
 |nil=>simp at hv
 |cons c r ih=>
  have le:∀C:List ByteArray,(C.filter fun w=>decide (w∉F++[v])).length≤(C.filter fun w=>decide (w∉F)).length:=by
   intro C
   induction C with
   |nil=>simp
   |cons c r ih=>
    by_cases h1:c∈F
    ·simpa [List.filter_cons,h1] using ih
    ·by_cases h2:c=v
     ·subst h2;simp [List.filter_cons,h1] at ih⊢;omega
     ·simpa [List.filter_cons,h1,h2] using ih
  rcases List.mem_cons.1 hv with rfl|hv
  ·have:=le r
   simp only [List.filter_cons,hn]
   simp at this⊢
   omega
  ·have h3:=ih hv
   by_cases h1:c∈F
   ·simpa [List.filter_cons,h1] using h3
   ·by_cases h2:c=v
    ·subst h2;simp [List.filter_cons,h1] at h3⊢;omega
    ·simpa [List.filter_cons,h1,h2] using h3
theorem pa {b:List Li} (F:List ByteArray) {y:Li} (hy:y∈b):(eu F y=F∧(y.k=3→y.jR=1→ge y.l y.r F=false∧ge y.r y.l F=false))∨(∃v,eu F y=F++[v]∧v∈Uh b∧v∉F∧((∀w,w∈F→qK b w)→qK b v)):=by
 unfold eu
 split
 ·rename_i h;exact .inl ⟨rfl,fun h1 h2=>by rcases h with h|h;exact absurd h1 h;exact absurd h2 h⟩
 ·rename_i h
  have h3:y.k=3:=by by_cases e:y.k=3;exact e;exact absurd (.inl e) h
  have h1:y.jR=1:=by by_cases e:y.jR=1;exact e;exact absurd (.inr e) h
  split
  ·rename_i hg
   obtain ⟨a1,a2,a3,a4⟩:=tq hg
   rw [a4]
   exact .inr ⟨_,rfl,List.mem_flatMap.2 ⟨y,hy,by simp⟩,a2,fun hF=> .yd y hy h3 h1 a1 fun w hw=>hF w (a3 w hw)⟩
  ·split
   ·rename_i hg
    obtain ⟨a1,a2,a3,a4⟩:=tq hg
    rw [a4]
    exact .inr ⟨_,rfl,List.mem_flatMap.2 ⟨y,hy,by simp⟩,a2,fun hF=> .qL y hy h3 h1 a1 fun w hw=>hF w (a3 w hw)⟩
   ·rename_i g1 g2
    exact .inl ⟨rfl,fun _ _=>⟨by simpa using g1,by simpa using g2⟩⟩
theorem k7 {b:List Li}:∀(l:List Li),(∀y,y∈l→y∈b)→∀F:List ByteArray,(∀w,w∈F→qK b w)→
  (∀w,w∈l.foldl eu F→qK b w)∧F.length≤(l.foldl eu F).length∧(l.foldl eu F).length+tn b (l.foldl eu F)≤F.length+tn b F∧
  ((l.foldl eu F).length=F.length→l.foldl eu F=F∧∀y,y∈l→y.k=3→y.jR=1→ge y.l y.r F=false∧ge y.r y.l F=false)
 |[],_,F,hF=>⟨hF,Nat.le_refl _,Nat.le_refl _,fun _=>⟨rfl,fun _ h=>by simp at h⟩⟩
 |y::r,hl,F,hF=>by
  rw [List.foldl_cons]
  rcases pa (b:=b) F (hl y (by simp)) with ⟨h,hn⟩|⟨v,h,hc,hv,hs⟩
  ·rw [h]
   obtain ⟨h1,h2,h3,h4⟩:=k7 r (fun z hz=>hl z (by simp [hz])) F hF
   refine ⟨h1,h2,h3,fun e=> ?_⟩
   obtain ⟨e1,e2⟩:=h4 e
   refine ⟨e1,fun z hz=> ?_⟩
   rcases List.mem_cons.1 hz with rfl|hz
   ·exact hn
   ·exact e2 z hz
  ·rw [h]
   obtain ⟨h1,h2,h3,_⟩:=k7 r (fun z hz=>hl z (by simp [hz])) (F++[v]) (by intro w hw;rcases List.mem_append.1 hw with hw|hw;exact hF w hw;rw [List.mem_singleton.1 hw];exact hs hF)
   have:=Be hc hv
   simp only [List.length_append,List.length_singleton,tn] at h2 h3⊢
   exact ⟨h1,by omega,by omega,fun e=>by omega⟩
theorem zJ (F G:List ByteArray) (l230_1q:Lo 61 (O Tryz.f230 1) ⟨[(0,sL b),(3,.aO 1236 F.length),(4,sI (F.length:Nat)),(5,sI 0)],[(1236,.ao 1 (F.map .J))]⟩ (.ar 2) ⟨[(0,sL b),(3,.aO 1236 G.length),(4,sI (F.length:Nat))],[(1236,.ao 1 (G.map .J))]⟩):En 61 (O Tryz.f230 0) (⟨[(0,sL b),(3,.aO 1236 F.length)],[(1236,.ao 1 (F.map .J))]⟩) (fun eo so=>(eo= .aR∧G.length=F.length∧so=⟨[(2,.aO 1236 G.length)],[(1236,.ao 1 (G.map .J))]⟩)∨(eo= .aj∧G.length≠F.length∧so=⟨[(0,sL b),(3,.aO 1236 G.length)],[(1236,.ao 1 (G.map .J))]⟩)):=by
 have o0:=l230_1q
 exact aZ Tryz.f230 2000 [0,3] [2] [K1 1236]
theorem ws {b:List Li}:∀(l:List Li),(∀y,y∈l→y∈b)→∀(F:List ByteArray) (v:ByteArray),v∈F→v∈l.foldl eu F
 |[],_,F,v,h=>h
 |y::r,hl,F,v,h=>by
  rw [List.foldl_cons]
  refine ws r (fun z hz=>hl z (by simp [hz])) _ v ?_
  rcases pa (b:=b) F (hl y (by simp)) with ⟨e,_⟩|⟨u,e,_⟩
  ·rw [e];exact h
  ·rw [e];exact List.mem_append_left _ h
theorem Db (hsm:b.length<1000000) (hsz:∀y,y∈b→y.l.af.length<2199023255552∧y.r.af.length<2199023255552):∀(m:Nat) (F:List ByteArray),tn b F≤m→(∀w,w∈F→qK b w)→(∀y,y∈b→y.k=1→∀v,v∈ay y.ts→v∈F)→F.length+tn b F<1000000000→
  ∃G:List ByteArray,Lo 61 (O Tryz.f230 0) ⟨[(0,sL b),(3,.aO 1236 F.length)],[(1236,.ao 1 (F.map .J))]⟩ .aR ⟨[(2,.aO 1236 G.length)],[(1236,.ao 1 (G.map .J))]⟩∧∀v,v∈G↔qK b v:=by
 intro m
 induction m with
 |zero=>
  intro F hm hF hA hb
  obtain ⟨e,t,h1|h1,h⟩:=zJ b F _ (zI b _ hsm hsz F (by omega))
  all_goals obtain ⟨r1,r2,r3,r4⟩:=k7 b (fun y hy=>hy) F hF
  ·obtain ⟨rfl,hlen,rfl⟩:=h1
   obtain ⟨e1,e2⟩:=r4 hlen
   refine ⟨_,.bD h (by simp),fun v=>⟨r1 v,fun hv=> ?_⟩⟩
   rw [e1]
   induction hv with
   |wr y hy hk v hv=>exact hA y hy hk v hv
   |yd y hy hk hr hl hw ih=>exact pE (e2 y hy hk hr).1 hl ih
   |qL y hy hk hr hl hw ih=>exact pE (e2 y hy hk hr).2 hl ih
  ·obtain ⟨rfl,hlen,rfl⟩:=h1;omega
 |succ m ihm=>
  intro F hm hF hA hb
  obtain ⟨e,t,h1|h1,h⟩:=zJ b F _ (zI b _ hsm hsz F (by omega))
  all_goals obtain ⟨r1,r2,r3,r4⟩:=k7 b (fun y hy=>hy) F hF
  ·obtain ⟨rfl,hlen,rfl⟩:=h1
   obtain ⟨e1,e2⟩:=r4 hlen
   refine ⟨_,.bD h (by simp),fun v=>⟨r1 v,fun hv=> ?_⟩⟩
   rw [e1]
   induction hv with
   |wr y hy hk v hv=>exact hA y hy hk v hv
   |yd y hy hk hr hl hw ih=>exact pE (e2 y hy hk hr).1 hl ih
   |qL y hy hk hr hl hw ih=>exact pE (e2 y hy hk hr).2 hl ih
  ·obtain ⟨rfl,hlen,rfl⟩:=h1
   obtain ⟨G,h2,h3⟩:=ihm _ (by omega) r1 (fun y hy hk v hv=>ws b (fun y hy=>hy) F v (hA y hy hk v hv)) (by omega)
   exact ⟨G,.cR h h2,h3⟩
theorem Pz {b:List Li} {y:Li} (hy:y∈b):y.af.length≤(az b).length:=by
 induction b with
 |nil=>simp at hy
 |cons c r ih=>
  rw [az,List.flatMap_cons,List.length_append]
  rcases List.mem_cons.1 hy with rfl|hy
  ·omega
  ·have:=ih hy;simp only [az] at this;omega
theorem Gk:(Uh b).length=2*b.length:=by
 induction b with
 |nil=>rfl
 |cons c r ih=>simp only [Uh,List.flatMap_cons,List.length_append,List.length_cons,List.length_nil] at ih⊢;omega
theorem Bf:(iN b).length≤(az b).length:=by
 have go:∀(b:List Li) (F:List ByteArray),(b.foldl ll F).length≤F.length+(az b).length:=by
  intro b
  induction b with
  |nil=>intro F;simp [az]
  |cons y r ih=>
   intro F
   rw [List.foldl_cons]
   have h1:=ih (ll F y)
   have h2:(ll F y).length≤F.length+y.af.length:=by
    unfold ll;split
    ·have:=om (ay y.ts) F;have:=bU y.ts;simp only [Li.af,List.length_append];omega
    ·omega
   simp only [az,List.flatMap_cons,List.length_append] at h1⊢;omega
 simpa [iN] using go b []
theorem Py (b:List Li) (h1:b.length<1000000) (h2:(az b).length<100000000):∃G:List ByteArray,Sp 230 [.aF (b.map Li.av) false] [] (.aF (G.map .J) false) []∧∀v,v∈G↔qK b v:=by
 have hl:tn b (iN b)≤2*b.length:=by rw [←Gk b];exact List.length_filter_le _ _
 have ha:=Bf b
 obtain ⟨G,h3,h4⟩:=Db b h1 (fun y hy=>by have:=Pz hy;simp only [Li.af,List.length_append] at this;omega) _ (iN b) (Nat.le_refl _) (fun w hw=>by obtain ⟨y,a1,a2,a3⟩:=(tp b w).1 hw;exact .wr y a1 a2 w a3) (fun y hy hk v hv=>(tp b v).2 ⟨y,hy,hk,hv⟩) (by omega)
 have y0h:(az b).length<2199023255552:=(by omega)
 exact ⟨G,(aK Tryz.f230 2000 61),h4⟩
end
section
@[grind→] theorem fF {p:ByteArray} {hd:List Ar} {bd:List Li} (h:ch p hd bd=true):hd.length≤24∧bd.length≤16∧(az bd).length≤16000:=by
  simp only [ch,Bool.and_eq_true,decide_eq_true_eq] at h
  have:=fB bd fun y hy=>fD (List.all_eq_true.1 h.1.2 y hy)
  exact ⟨h.1.1.1.1.2,h.1.1.1.2,by omega⟩
open Classical in
noncomputable def eQ (hd:List Ar) (bd:List Li):Bool:=decide (∀v,v∈ay (hd.map Ar.t++az bd)→qK bd v)
theorem qM {hd:List Ar} {bd:List Li} {G:List ByteArray} (h:∀v,v∈G↔qK bd v):bT (ay (hd.map Ar.t++az bd)) G=eQ hd bd:=by
 rw [Bool.eq_iff_iff]
 simp only [bT,eQ,List.all_eq_true,bq,decide_eq_true_eq]
 exact ⟨fun k v hv=>(h v).1 (k v hv),fun k v hv=>(h v).2 (k v hv)⟩
noncomputable def eD (p:ByteArray) (hd:List Ar) (bd:List Li):Int:=if ch p hd bd=true then (if eQ hd bd=true then 0 else 73) else 40
attribute [local simp,local grind] eD in
theorem PA (p:ByteArray) (hd:List Ar) (bd:List Li):Sp 192 [.al [.J p,sA hd,sL bd]] [] (sI (eD p hd bd)) []:=by
 obtain ⟨G,hk,hG⟩:∃G:List ByteArray,(ch p hd bd=true→Sp 230 [sL bd] [] (sS G) [])∧bT (ay (hd.map Ar.t++az bd)) G=eQ hd bd:=by
  by_cases h:ch p hd bd=true
  ·have h1:=fF h
   obtain ⟨G,a,b⟩:=Py bd (by omega) (by omega)
   exact ⟨G,fun _=>a,qM b⟩
  ·by_cases h2:eQ hd bd=true
   ·exact ⟨ay (hd.map Ar.t++az bd),fun e=>absurd e h,by rw [h2];simp [bT,bq]⟩
   ·cases hv:ay (hd.map Ar.t++az bd) with
    |nil=>exact absurd (by simp [eQ,hv]) h2
    |cons v r=>exact ⟨[],fun e=>absurd e h,by simp only [Bool.not_eq_true] at h2;rw [h2];simp [bT,bq]⟩
 exact aL Tryz.f192 0 13
@[reducible,instance] def VI (p:ByteArray) (hd:List Ar) (bd:List Li):=kT (PA p hd bd)
end
structure Ed where
 f:ByteArray
 t:ByteArray
 k:Int
 i:Int
@[reducible] def Ed.ac (e:Ed):List AV:=[.J e.f,.J e.t,sJ e.k,sI e.i]
@[reducible] def Ed.av (e:Ed):AV:= .al e.ac
theorem Dd (e:Ed):aJ e.av=true:=by simp only [Ed.av,Ed.ac,aJ,aa,Bool.and_self]
@[simp] theorem ye (l:List Ed):aa (l.map Ed.av)=true:=bI Ed.av Dd l
@[simp] theorem VK (x:Ed):c8 4 x.av:=⟨rfl,by simp [Ed.av,Ed.ac,AV.ac,cj]⟩
abbrev Ad:=ByteArray×ByteArray
@[reducible] def bE (x:Ad):AV:= .al [.J x.1,.J x.2]
theorem Dc (x:Ad):aJ (bE x)=true:=rfl
@[simp] theorem dZ (l:List Ad):aa (l.map bE)=true:=bI bE Dc l
@[simp] theorem VJ (x:Ad):c8 2 (bE x):=⟨rfl,by simp [bE,AV.ac,cj]⟩
def Jm:Ex:= .mk 0 ⟨⟨#[]⟩,0,0,⟨#[]⟩⟩ []
@[reducible] def bV (x:ByteArray×Int):AV:= .al [.J x.1,sI x.2]
@[simp] theorem Ld (x:ByteArray×Int):c8 2 (bV x):=⟨rfl,by simp [bV,AV.ac,cj]⟩
@[simp] theorem De (x:ByteArray×Int):aJ (bV x)=true:=by simp [bV,aJ,aa]
@[simp] theorem yf (l:List (ByteArray×Int)):aa (l.map bV)=true:=bI bV De l
section
variable (p:ByteArray) (l:List ByteArray) (s:ByteArray) (ts:List Tm)
def nh {X:Type} (p:X→Bool) (x:X):Option Bool:=if p x=true then some true else none
@[grind→] theorem Dg {X:Type} {p:X→Bool}:∀{l:List X},l.findSome? (nh p)=none→l.any p=false
  |[],_=>rfl
  |c::r,h=>by
   rw [List.findSome?_cons] at h
   by_cases hc:p c=true
   ·simp only [nh,if_pos hc] at h;cases h
   ·simp only [nh,if_neg hc] at h;rw [List.any_cons,Dg (l:=r) h];simpa using hc
@[grind→] theorem qN {X:Type} {p:X→Bool}:∀{l:List X} {b:Bool},l.findSome? (nh p)=some b→b=true∧l.any p=true
  |[],b,h=>by simp at h
  |c::r,b,h=>by
   rw [List.findSome?_cons] at h
   by_cases hc:p c=true
   ·simp only [nh,if_pos hc] at h;injection h with h;exact ⟨h.symm,by rw [List.any_cons,hc];rfl⟩
   ·simp only [nh,if_neg hc] at h
    obtain ⟨h1,h2⟩:=qN (l:=r) h
    exact ⟨h1,by rw [List.any_cons,h2,Bool.or_true]⟩
inductive uF:List AV→List AV→Prop where
 |iV:uF [] []
 |bz {x y:AV} {xs ys:List AV} (h:Wk x y) (k:uF xs ys):uF (x::xs) (y::ys)
theorem uF.kx {xs ys:List AV} (h:uF xs ys):xs.length=ys.length∧∀(i:Nat) c d,xs[i]? =some c→ys[i]? =some d→Wk c d:=by
 induction h with
 |iV=>exact ⟨rfl,fun i c d h=>by simp at h⟩
 |bz h k ih=>
  refine ⟨by simp [ih.1],fun i c d h1 h2=> ?_⟩
  cases i with
  |zero=>simp at h1 h2;subst h1;subst h2;exact h
  |succ i=>simp at h1 h2;exact ih.2 i c d h1 h2
theorem uF.al {xs ys:List AV} (h:uF xs ys):Wk (.al xs) (.al ys):= .al xs ys h.kx.1 h.kx.2
def eR (p:ByteArray) (ts:List Tm):Li:=⟨1,p,ts,0,Jm,Jm⟩
theorem jj:uF [sJ 1,.J p,sT ts,sJ 0,sJ 0,.J ⟨#[]⟩,sJ 0,sI 0,.J ⟨#[]⟩,.ab,sJ 0,.J ⟨#[]⟩,sJ 0,sI 0,.J ⟨#[]⟩,.ab] (eR p ts).ac:=by
 show uF _ [sJ 1,.J p,sT ts,sJ 0,sJ 0,.J ⟨#[]⟩,sJ 0,sI 0,.J ⟨#[]⟩,.aF [] false,sJ 0,.J ⟨#[]⟩,sJ 0,sI 0,.J ⟨#[]⟩,.aF [] false]
 repeat first|exact .iV|refine .bz (.bb _) ?_|refine .bz .ab ?_
def bF (p s:ByteArray):ByteArray:=((⟨#[113,95,109,95]⟩++s)++⟨#[95]⟩)++p
def jA (s:ByteArray):Bool:=decide (2≤s.size)&&decide (s.extract 0 2=⟨#[113,95]⟩)
def ng (rs:List Ru) (p:ByteArray):Bool:=rs.any fun r=>decide (r.p=p)
def im (hd:List Ar):Bool:=hd.any fun a=> !decide (a.g=0)
def oo (x:Ex):ByteArray:=if x.op=0 then x.t.v else ⟨#[]⟩
abbrev PB (s:ByteArray) (l:List ByteArray) (i:Int):St:=⟨[(0,sS l),(1,.J s),(5,sI i)],[]⟩
abbrev Lh (s:ByteArray) (l:List ByteArray) (i:Int):St:=⟨[(0,sS l),(1,.J s),(5,sI i)],[]⟩
abbrev Ll (s:ByteArray) (l:List ByteArray) (i:Int):St:=⟨[(0,sS l),(1,.J s),(5,sI i)],[]⟩
abbrev Lg (p:ByteArray) (hd:List Ar) (bd:List Li) (i:Int):St:=⟨[(1,.aA 1 0 0),(3,sI i)],[(1,.an [.J p,sA hd,sL bd])]⟩
abbrev PC (rs:List Ru) (p:ByteArray) (i:Int):St:=⟨[(0,sR rs),(1,.J p),(5,sI i)],[]⟩
abbrev Lf (a:Ad):Nat×Ob:=(3,.an [.J a.1,.J a.2])
abbrev PD (L:List Ad) (a:Ad) (i:Int):St:=⟨[(0,.aF (L.map bE) false),(3,.aA 3 0 0),(5,sI i)],[Lf a]⟩
theorem Jp (x:Li):Sp 235 [x.av] [] (.ak ((decide (x.k=1)||decide (x.k=2)))) []:=aL Tryz.f235 0 11
@[reducible,instance] def VN (x:Li):=kT (Jp x)
theorem PF (e:Ed):Sp 239 [e.av] [] (.ak ((!decide (e.k=1)))) []:=aL Tryz.f239 0 6
attribute [local simp,local grind] oo in
theorem PH (x:Ex):Sp 286 [.al x.ac] [] (.J ((oo x))) []:=aL Tryz.f286 0 9
@[reducible,instance] def VR (x:Ex):=kT (PH x)
attribute [local simp,local grind] jA in
theorem Jo:Sp 153 [.J s] [] (.ak ((jA s))) []:=aL Tryz.f153 0 11
@[reducible,instance] def VM (s:ByteArray):=kT (Jo s)
theorem PE:En 9 (ai Tryz.f101) ⟨[(0,.J p),(1,sT ts)],[]⟩ (fun e t=>e= .aR∧t=⟨[(4,.aA 4 0 0)],[(4,.an [sJ 1,.J p,sT ts,sJ 0,sJ 0,.J ⟨#[]⟩,sJ 0,sI 0,.J ⟨#[]⟩,.ab,sJ 0,.J ⟨#[]⟩,sJ 0,sI 0,.J ⟨#[]⟩,.ab])]⟩):=au Tryz.f101 0
theorem PJ (hp:p.size<1000000000000000000) (hs:s.size<1000000000000000000):Sp 55 [.al [.J p,.J s]] [] (.J (bF p s)) []:=aK Tryz.f55 0 10
@[reducible,instance] def aao (p s:ByteArray):=kG (PJ p s)
theorem Jn:Sp 101 [.J p,sT ts] [] (eR p ts).av []:=by
 obtain ⟨_,_,⟨rfl,rfl⟩,h⟩:=PE p ts
 exact bK.vS (bK.jb (fn:=Tryz.f101) (c:=ai Tryz.f101) (by kernel_rfl) (by kernel_rfl) (by simp [aa,aJ]) h (.inr rfl) (by kernel_rfl) (by simp [aa,aJ])) (jj p ts).al
@[reducible,instance] def VL (p:ByteArray) (ts:List Tm):=kT (Jn p ts)
attribute [local simp,local grind] nc in
theorem PI:Sp 38 [sS l,.J s] [] (.ak ((bq s l))) []:=by
 refine bK.dY (l.map AV.J) ⟨_,by simp,false,.inl rfl⟩ fun hsm=> ?_
 have q0:List.length (l.map AV.J)≤9223372036854775807:=(Nat.le_trans hsm (by simp [maxLen]))
 have o0:=fun (hsm:l.length≤9223372036854775807)=>bN (P:=Tryz.prog) (n:=18) (c:=O Tryz.f38 0) (k:=0) (l:=l) (fun i=>PB s l (i:Nat)) ⟨[],[]⟩ (fun rb:Bool=>⟨[(4,.ak rb)],[]⟩) (nc s) (fun i hi=>aZ Tryz.f38 0 [0,1,5] [4]) (au Tryz.f38 0)
 exact aL Tryz.f38 0 18
@[reducible,instance] def aan (l:List ByteArray) (s:ByteArray):=kT (PI l s)
attribute [local simp,local grind] nc in
theorem zL:Sp 240 [sS l,.J s] [] (.ak ((bq s l))) []:=by
 refine bK.dY (l.map AV.J) ⟨_,by simp,false,.inl rfl⟩ fun hsm=> ?_
 have q0:List.length (l.map AV.J)≤9223372036854775807:=(Nat.le_trans hsm (by simp [maxLen]))
 have o0:=fun (hsm:l.length≤9223372036854775807)=>bN (P:=Tryz.prog) (n:=18) (c:=O Tryz.f240 0) (k:=0) (l:=l) (fun i=>Lh s l (i:Nat)) ⟨[],[]⟩ (fun rb:Bool=>⟨[(4,.ak rb)],[]⟩) (nc s) (fun i hi=>aZ Tryz.f240 0 [0,1,5] [4]) (au Tryz.f240 0)
 exact aL Tryz.f240 0 18
attribute [local simp,local grind] nc in
theorem Jr:Sp 272 [sS l,.J s] [] (.ak ((bq s l))) []:=by
 refine bK.dY (l.map AV.J) ⟨_,by simp,false,.inl rfl⟩ fun hsm=> ?_
 have q0:List.length (l.map AV.J)≤9223372036854775807:=(Nat.le_trans hsm (by simp [maxLen]))
 have o0:=fun (hsm:l.length≤9223372036854775807)=>bN (P:=Tryz.prog) (n:=18) (c:=O Tryz.f272 0) (k:=0) (l:=l) (fun i=>Ll s l (i:Nat)) ⟨[],[]⟩ (fun rb:Bool=>⟨[(4,.ak rb)],[]⟩) (nc s) (fun i hi=>aZ Tryz.f272 0 [0,1,5] [4]) (au Tryz.f272 0)
 exact aL Tryz.f272 0 18
@[reducible,instance] def VQ (l:List ByteArray) (s:ByteArray):=kT (Jr l s)
attribute [local simp,local grind] nh in
attribute [local simp,local grind] im in
theorem Df (hd:List Ar) (bd:List Li):Sp 237 [.al [.J p,sA hd,sL bd]] [] (.ak ((im hd))) []:=by
 refine bK.dY (hd.map Ar.av) ⟨_,List.mem_cons_self ..,false,.inr ⟨_,rfl,by simp⟩⟩ fun hsm=> ?_
 have q0:List.length (hd.map Ar.av)≤9223372036854775807:=(Nat.le_trans hsm (by simp [maxLen]))
 have o0:=fun (hsm:hd.length≤9223372036854775807)=>bN (P:=Tryz.prog) (n:=18) (c:=O Tryz.f237 0) (k:=0) (l:=hd) (fun i=>Lg p hd bd (i:Nat)) ⟨[],[(1,.an [.J p,sA hd,sL bd])]⟩ (fun rb:Bool=>⟨[(2,.ak rb)],[(1,.an [.J p,sA hd,sL bd])]⟩) (nh fun a=> !decide (a.g=0)) (fun i hi=>aZ Tryz.f237 0 [1,3] [2] [K1 1]) (au Tryz.f237 0)
 exact aL Tryz.f237 0 18
attribute [local simp,local grind] nh in
attribute [local simp,local grind] ng in
theorem Lm (rs:List Ru) (p:ByteArray):Sp 96 [sR rs,.J p] [] (.ak ((ng rs p))) []:=by
 refine bK.dY (rs.map Ru.av) ⟨_,by simp,false,.inl rfl⟩ fun hsm=> ?_
 have q0:List.length (rs.map Ru.av)≤9223372036854775807:=(Nat.le_trans hsm (by simp [maxLen]))
 have o0:=fun (hsm:rs.length≤9223372036854775807)=>bN (P:=Tryz.prog) (n:=19) (c:=O Tryz.f96 0) (k:=0) (l:=rs) (fun i=>PC rs p (i:Nat)) ⟨[],[]⟩ (fun rb:Bool=>⟨[(4,.ak rb)],[]⟩) (nh fun r=>decide (r.p=p)) (fun i hi=>aZ Tryz.f96 0 [0,1,5] [4]) (au Tryz.f96 0)
 exact aL Tryz.f96 0 19
@[reducible,instance] def aap (rs:List Ru) (p:ByteArray):=kT (Lm rs p)
attribute [local simp,local grind] nh in
theorem VS (L:List Ad) (a:Ad):Sp 98 [.aF (L.map bE) false,.al [.J a.1,.J a.2]] [] (.ak ((L.any fun b=>decide (b=a)))) []:=by
 refine bK.dY (L.map bE) ⟨_,by simp,false,.inl rfl⟩ fun hsm=> ?_
 have q0:List.length (L.map bE)≤9223372036854775807:=(Nat.le_trans hsm (by simp [maxLen]))
 have o0:=fun (hsm:L.length≤9223372036854775807)=>bN (P:=Tryz.prog) (n:=18) (c:=O Tryz.f98 0) (k:=0) (l:=L) (fun i=>PD L a (i:Nat)) ⟨[],[Lf a]⟩ (fun rb:Bool=>⟨[(4,.ak rb)],[Lf a]⟩) (nh fun b=>decide (b=a)) (fun i hi=>aZ Tryz.f98 0 [0,3,5] [4] [K1 3]) (au Tryz.f98 0)
 exact aL Tryz.f98 0 18
abbrev Lk (l m:List ByteArray) (i:Int):St:=⟨[(0,sS l),(1,sS m),(5,sI i)],[]⟩
abbrev Lj (l m:List ByteArray) (i:Int):St:=⟨[(0,sS l),(1,sS m),(5,sI i)],[]⟩
attribute [local simp,local grind] ku in
attribute [local simp,local grind] bT in
theorem Jq (m:List ByteArray):Sp 270 [sS l,sS m] [] (.ak ((bT l m))) []:=by
 refine bK.dY (l.map AV.J) ⟨_,by simp,false,.inl rfl⟩ fun hsm=> ?_
 have q0:List.length (l.map AV.J)≤9223372036854775807:=(Nat.le_trans hsm (by simp [maxLen]))
 have o0:=fun (hsm:l.length≤9223372036854775807)=>bN (P:=Tryz.prog) (n:=19) (c:=O Tryz.f270 0) (k:=0) (l:=l) (fun i=>Lk l m (i:Nat)) ⟨[],[]⟩ (fun rb:Bool=>⟨[(4,.ak rb)],[]⟩) (ku fun v=>bq v m) (fun i hi=>aZ Tryz.f270 0 [0,1,5] [4]) (au Tryz.f270 0)
 exact aL Tryz.f270 0 19
@[reducible,instance] def VP (l m:List ByteArray):=kT (Jq l m)
attribute [local simp,local grind] ku in
attribute [local simp,local grind] bT in
theorem PG (m:List ByteArray):Sp 241 [sS l,sS m] [] (.ak ((bT l m))) []:=by
 refine bK.dY (l.map AV.J) ⟨_,by simp,false,.inl rfl⟩ fun hsm=> ?_
 have q0:List.length (l.map AV.J)≤9223372036854775807:=(Nat.le_trans hsm (by simp [maxLen]))
 have o0:=fun (hsm:l.length≤9223372036854775807)=>bN (P:=Tryz.prog) (n:=19) (c:=O Tryz.f241 0) (k:=0) (l:=l) (fun i=>Lj l m (i:Nat)) ⟨[],[]⟩ (fun rb:Bool=>⟨[(4,.ak rb)],[]⟩) (ku fun v=>bq v m) (fun i hi=>aZ Tryz.f241 0 [0,1,5] [4]) (au Tryz.f241 0)
 exact aL Tryz.f241 0 19
@[reducible,instance] def VO (l m:List ByteArray):=kT (PG l m)
end
section
variable (s:ByteArray)
theorem iO {α β:Type} (f:α→β) (z:β) {l:List α} {i m:Nat} {x:α} (hx:l[i]? =some x):((l.take i).map f++List.replicate (m+1) z).set i (f x)=(l.take (i+1)).map f++List.replicate m z:=by
 have hi:i<l.length:=(List.getElem?_eq_some_iff.1 hx).1
 have hlen:((l.take i).map f).length=i:=by rw [List.length_map,List.length_take];omega
 rw [List.set_append_right _ _ (by omega),hlen,Nat.sub_self,List.replicate_succ,List.set_cons_zero]
 have:l.take (i+1)=l.take i++[x]:=by rw [List.take_add_one,hx];rfl
 rw [this,List.map_append,List.append_assoc]
 rfl
def PM:Tm:=⟨⟨#[]⟩,0,0,⟨#[]⟩⟩
def aH (q s:ByteArray):ByteArray:=ByteArray.mk #[113,95]++s++ByteArray.mk #[95]++q
attribute [local simp] aH ByteArray.size_append in
theorem Gl (q s:ByteArray) (hq:q.size<1000000000000000000) (hs:s.size<1000000000000000000):Sp 14 [.al [.J q,.J s]] [] (.J (aH q s)) []:=aK Tryz.f14 0 10
attribute [local simp] aH ByteArray.size_append in
theorem Gm (q s:ByteArray) (hq:q.size<1000000000000000000) (hs:s.size<1000000000000000000):Sp 15 [.al [.J q,.J s]] [] (.J (aH q s)) []:=aK Tryz.f15 0 10
theorem lI (l:List ByteArray) (s:ByteArray) (hl:l.length<1000000000000000):Sp 37 [sS l,.J s] [] (.ak (mW l s)) []:=by
 obtain ⟨k,h,e⟩:∃k:Int,Sp 73 [sS l,.J s] [] (sI k) []∧decide (0≤k)=mW l s:=by
  rcases qx (P:=Tryz.prog) (n:=19) (c:=O Tryz.f73 0) (k:=0) (l:=l) (fun i=>⟨[(0,sS l),(1,.J s),(7,sI (l.map AV.J).length),(8,sI i)],[]⟩) ⟨[],[]⟩ (fun i=>⟨[(4,sI i)],[]⟩) (fun x=>decide (x=s)) (fun i hi=>aZ Tryz.f73 0 [0,1,7,8] [4]) (au Tryz.f73 0) with ⟨r,h,e⟩|⟨h,e⟩
  ·exact ⟨r,aK Tryz.f73 0 19,by simp [mW,e]⟩
  ·exact ⟨-1,aK Tryz.f73 0 19,by simp [mW,e]⟩
 rw [←e]
 exact aL Tryz.f37 0 9
theorem d6 {P:Program} {n:Nat} {c:Code} {S:Nat→St} {N k:Nat} {T:St} (turn:∀i,i<N→dm P n c (S i) (fun e t=>e= .aj∧t=S (i+1))) (stop:dm P n c (S N) (fun e t=>e= .ar k∧t=T)):bJ P n c (S 0) (.ar k) T:=by
 obtain ⟨_,_,⟨rfl,rfl⟩,h⟩:=stop
 exact bJ.rX (N:=N) (fun i hi=>by obtain ⟨_,_,⟨rfl,rfl⟩,h⟩:=turn i hi;exact h) (.bD h (by simp))
theorem zP (ts:List Tm) (hts:ts.length<100000000000000):Sp 21 [sT ts,sT ts] [] (.ak true) []:=by
 have o:=d6 (P:=Tryz.prog) (n:=26) (c:=O Tryz.f21 0) (N:=ts.length) (k:=0) (S:=fun i=>⟨[(0,sT ts),(1,sT ts),(5,sI i)],[]⟩) (T:=⟨[],[]⟩) (fun i hi=>au Tryz.f21 0) (au Tryz.f21 0)
 exact aK Tryz.f21 0 26
def pb (ks:List ByteArray) (t:Tm):UInt8:=if t.v=⟨#[]⟩ then 98 else if t.v=⟨#[95]⟩ then 102 else bif mW ks t.v then 98 else 102
def aW (ts:List Tm) (ks:List ByteArray):ByteArray:=⟨(ts.map (pb ks)).toArray⟩
theorem PL {n b m:Nat} {q:Bool} {f:Func} {r:Code} {Q:cw→St→Prop} {K:List KF} {e:cw} {st:St} {d:List cv} {w:World} {es:List AV} {off len:Nat} (s:ByteArray) (k:G Proofs.Tryz.prog n q b f r Q K e st (d++[.vw s]) (Sem.run hP (Go.method 1 0 (cN Proofs.Tryz.prog q b f r K e st (d++[.vw s])) "") default)):G Proofs.Tryz.prog n q b f r Q K e st d (.ok (m,.int .i8 (I6 es off len)) w):=k
theorem PK (a:List UInt8) (i n:Nat) (h:a.length=i) (hi:i<n) (b:UInt8) (c:Int) (hc:c=b.toNat):List.set (a.map CD++List.replicate (n-i) (.aP .u8 0)) i (.aP .u8 c)=(a++[b]).map CD++List.replicate (n-(i+1)) (.aP .u8 0):=by
 subst hc
 rw [List.set_append_right _ _ (by simp [h]),List.length_map,h,Nat.sub_self,show n-i=n-(i+1)+1 by omega,List.replicate_succ,List.set_cons_zero];simp [CD]
@[local simp] theorem ns {l:List AV} {i:Nat} {c:Int} (h:aa l=true):aa (l.set i (.aP .u8 c))=true:=a8.2 fun x hx=>by
  rcases List.mem_or_eq_of_mem_set hx with h1|rfl
  ·exact a8.1 h x h1
  ·rfl
@[local simp] theorem nb0 (a:List UInt8) (n:Nat):aa (a.map CD++List.replicate n (.aP .u8 0))=true:=a8.2 fun x hx=>by
  simp only [List.mem_append,List.mem_map,List.mem_replicate] at hx
  rcases hx with ⟨_,_,rfl⟩|⟨_,rfl⟩<;>rfl
@[local simp] theorem nb1 (a:List UInt8):aa (a.map CD)=true:=by simpa using nb0 a 0
@[local simp] theorem nb2 (n:Nat):aa (List.replicate n (.aP .u8 0))=true:=nb0 [] n
theorem wt {α β:Type} (f:α→β):∀(l:List α) (a:List β),l.foldl (fun a t=>a++[f t]) a=a++l.map f
 |[],a=>by simp
 |x::l,a=>by rw [List.foldl_cons,wt f l];simp
instance abw (l:List ByteArray) (s:ByteArray):KS 37 [sS l,.J s] [] (.ak (mW l s)) [] (l.length<1000000000000000):=⟨lI l s⟩
attribute [local simp] pb in
theorem wv (p:ByteArray) (ts:List Tm) (ks:List ByteArray) (hts:ts.length<1000000000000) (hks:ks.length<1000000000000000):Sp 10 [.al [.J p,.aF (ts.map Tm.av) false],.aF (ks.map .J) false] [] (.J (aW ts ks)) []:=by
 have o:=(be (P:=Tryz.prog) (n:=43) (c:=O Tryz.f10 0) (k:=0) (l:=ts) (fun i a=>⟨[(1,.aF (ks.map AV.J) false),(5,.aw 11 0 ts.length),(13,.aF (ts.map Tm.av) false),(14,.aP .i64 (ts.map Tm.av).length),(15,.aP .i64 i)],[(11,.aw 1 (a.map CD++List.replicate (ts.length-i) (.aP .u8 0)))]⟩) (fun a=>⟨[(5,.aw 11 0 ts.length)],[(11,.aw 1 (a.map CD))]⟩) (fun a t=>a++[pb ks t]) (fun i a=>a.length=i) (fun i a hi hI=>
  have h2:=PK a i ts.length hI hi 102 102 rfl
  have h3:=PK a i ts.length hI hi 98 98 rfl
  au Tryz.f10 0) (fun i a t _ h=>by simp [h]) (fun a h=>au Tryz.f10 0) [] rfl).1
 rw [wt,List.nil_append] at o
 refine au Tryz.f10 0 true (fun h=>zK Tryz.f10 43 h) ?_
 repeat' (
  go_invoke
  first
  |refine UF (by kernel_rfl) (aC ⟨rfl,by simp [ByteArray.size],by rw [List.take_of_length_le (by simp)];rfl⟩ aN) ?_
  |refine UF (by kernel_rfl) cs ?_
  |refine g_l o (by kernel_rfl) (by go_invoke;exact UE (by kernel_rfl) ce cs) ?_
  |refine PL ⟨(ts.map (pb ks)).toArray⟩ ?_
  |(refine g_n (by kernel_rfl) ⟨rfl,rfl⟩ ?_;go_invoke;refine UE (by kernel_rfl) ce cs))
theorem zO (l:List ByteArray):mW l s=bq s l:=Bool.eq_iff_iff.2 (by rw [ko];exact decide_eq_true_iff.symm)
theorem qO (a b:Array UInt8):(⟨a⟩:ByteArray)++⟨b⟩=⟨a++b⟩:=by
 apply ByteArray.ext
 simp
theorem wu (ks:List ByteArray):∀(ts:List Tm) (a:List UInt8),ts.foldl (fun (a:ByteArray) t=>a++⟨#[pb ks t]⟩) ⟨a.toArray⟩=⟨(a++ts.map (pb ks)).toArray⟩
 |[],a=>by simp
 |x::l,a=>by rw [List.foldl_cons,qO,show a.toArray++ #[pb ks x]=(a++[pb ks x]).toArray by simp,wu ks l];simp
attribute [local simp] pb zO in
theorem ww (p:ByteArray) (ts:List Tm) (ks:List ByteArray) (hts:ts.length<1000000000000) (hks:ks.length<1000000000000000):Sp 11 [.al [.J p,sT ts],sS ks] [] (.J (aW ts ks)) []:=by
 have o:=(be (P:=Tryz.prog) (n:=37) (c:=O Tryz.f11 0) (k:=0) (l:=ts) (fun i a=>⟨[(1,sS ks),(2,.aA 2 0 0),(5,.J a),(6,sI i)],[(2,.an [.J p,sT ts])]⟩) (fun a=>⟨[(5,.J a)],[]⟩) (fun a t=>a++⟨#[pb ks t]⟩) (fun i a=>a.size=i) (fun i a hi hI=>au Tryz.f11 0) (fun i a t _ h=>by rw [ByteArray.size_append,h];rfl) (fun a h=>au Tryz.f11 0) ⟨#[]⟩ rfl).1
 rw [show ts.foldl (fun (a:ByteArray) t=>a++⟨#[pb ks t]⟩) ⟨#[]⟩=aW ts ks from wu ks ts []] at o
 exact aK Tryz.f11 0 37
end
end Go.Ped
namespace Go.Ped
open Go.RowKit Go.Proofs Go.WideShapes Go.Deep
section
def lm (w:World):df:=fun b=>b<w.heap.size
theorem Gn {w:World} {a:Addr} {v:Value} (h:w.cell? a=some v):a.block<w.heap.size:=by
 unfold World.cell? at h
 split at h
 ·rename_i c t fz hw
  exact (Array.getElem?_eq_some_iff.1 hw).1
 ·cases h
section
variable {H:Type} {enc:TypeId×Value→H} {P:Program} {w:World} {base:Nat} {sp:Nat→Bool} {held:Bool}
theorem bY.Bg {S:df} {β:bn} {v:Value} {x:AV} (h:V S β w v x):bY S β w [v] [x]:=by
 refine ⟨rfl,fun i u c h1 h2=> ?_⟩
 match i with
 |0=>simp at h1 h2;subst h1;subst h2;exact h
 |i+1=>simp at h1
theorem PN {t:TypeId} {fuel:Nat} {cs:List Value} {x:DataW H×List MemPlace} (ht:P.underlying t=some .string) (h:DataW.trod enc P w base sp held fuel t cs=some x):∃s:ByteArray,cs=[.string s]∧x.1= .lit (.string s.data.toList):=by
 obtain ⟨s,h1,h2,_⟩:=DataW.trod_string ht h
 exact ⟨s,h1,by rw [h2]⟩
end
end
end Go.Ped
