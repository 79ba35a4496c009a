/- What the functions of the packages check, depend and adorn answer, and their counterparts in the document, is proved for every input. -/
import Derived.Test.YthhfolohakiemaaGreatDoorMagI
import Derived.Test.YthhfolohakiemaaGreatDoorMagM
import Derived.Test.YthhfolohakiemaaGreatDoorMagO
import Derived.Test.YthhfolohakiemaaGreatDoorMagP
set_option linter.all false
set_option maxRecDepth 20000
set_option maxHeartbeats 800000
namespace Go.Ped
open Go.RowKit Go.Proofs
section
variable (G:List ByteArray) (x:Ru) (tk:List Bool) (F:List ByteArray) (i:Nat) (y:Li)
theorem bK.wkU {P:Program} {f:FuncId} {args cs ds:List AV} {pre upd:List (Nat×Ob)} (h:bK P f args pre (.bC cs) upd) (k:uF cs ds):bK P f args pre (.bC ds) upd:=by
 intro F S β hp w vs M hl hv hpl hfr
 refine (h F S β hp w vs M hl hv hpl hfr).mono ?_
 rintro e w' ⟨v,S',β',rfl,x,m,q⟩
 exact ⟨v,S',β',rfl,x,m,V.Oj k.kx.1 k.kx.2 q⟩
def ly (F:List ByteArray) (z:Li×Bool):Bool:= !z.2&& !decide (z.1.k=1)&&bT (ay z.1.af) F
def jO (z:Li×Bool):Bool:= !z.2&&decide (z.1.k=1)
def lz (F:List ByteArray) (z:Li×Bool):Bool:= !z.2&&lu z.1 F
def fV {X:Type} (p:X→Bool) (z:X×Nat):Option Nat:=if p z.1=true then some z.2 else none
abbrev H5:Nat×AV:=(1,.aF (tk.map AV.ak) false)
abbrev H6:Nat×AV:=(3,.aA 2003 0 0)
abbrev ir (x:Ru) (tk:List Bool) (F:List ByteArray) (s:Nat) (i:Int):St:=⟨[H5 tk,(2,sS F),H6,(s,sI i)],[(2003,.an [.J x.p,sA x.hd,sL x.bd])]⟩
abbrev po (x:Ru) (i:Nat):St:=⟨[(6,sI i)],[(2003,.an [.J x.p,sA x.hd,sL x.bd])]⟩
attribute [local simp,local grind] lu in
theorem RY (x:Ru) (i:Nat) (y:Li) (F:List ByteArray) (hx:0≤(i:Int)∧(x.bd.map Li.av)[Int.toNat (i:Int)]? =some y.av) (hts:y.ts.length≤24) (hys:y.af.length<2199023255552) (h2:decide (y.k=2)=true) (h3:decide (y.k=3)=false):En 94 (ai Tryz.f242) ((⟨[(0,x.av),(1,.aP .i64 (i:Nat)),(2,.aF (F.map .J) false)],[]⟩)) (fun eo so=>eo= .aR∧∃(k m:Int) (g:AV) (rb:Bool),so=⟨[(6,.aA 2006 0 0),(7,.ak rb)],[(2006,.an [.aP .i8 k,.aP .i64 (i:Nat),.aP .u32 m,g])]⟩∧(g= .ab∨∃s:ByteArray,g= .aF [.J s] false)∧rb=lu y F):=aS Tryz.f242 2000 [6,7] [(2006,Rk.a6 2006 false)]
abbrev Es:Nat×AV:=(6,.aA 2006 0 0)
theorem RX (F:List ByteArray) (hx:0≤(i:Int)∧(x.bd.map Li.av)[Int.toNat (i:Int)]? =some y.av) (hyl:y.l.af.length<2199023255552) (hyr:y.r.af.length<2199023255552) (hys:y.af.length<2199023255552) (h2:decide (y.k=2)=false) (h3:decide (y.k=3)=true):En 94 (ai Tryz.f242) ((⟨[(0,x.av),(1,sI i),(2,sS F)],[]⟩)) (fun eo so=>eo= .aR∧∃(k m:Int) (g:AV) (rb:Bool),so=⟨[Es,(7,.ak rb)],[(2006,.an [sJ k,sI i,.aP .u32 m,g])]⟩∧(g= .ab∨∃s:ByteArray,g= .aF [.J s] false)∧rb=lu y F):=by
 have hs1:=Jq (ay (Li.af y)) (F)
 refine zs 2000<|ze hx<|zc (tm y (by assumption))<|zf (nF h3)<|zf h2<|zt h3<|zc hs1<|?_
 cases hb2:bT (ay (Li.af y)) F with
 |true=>
  rw [hb2] at hs1
  exact zq (s:=St.mk [Es,(7,.ak true)] [(2006,.an [sJ 5,sI (i:Int),.aP .u32 0,.ab])]) ⟨rfl,_,_,_,_,rfl,by first|exact .inl rfl|exact .inr ⟨_,rfl⟩,by simp_all [lu]⟩ (tb:=[K0 2006])
 |false=>
  rw [hb2] at hs1
  have u0:(0:Int)≤(0:Int)∧(0:Int)<(1:Int):=by omega
  have u1:(some (AV.J (lr y F)):Option AV)=some (AV.J (lr y F)):=rfl
  have u2:1=List.length [AV.J (lr y F)]:=by rfl
  refine zc (Qj y F (by assumption) (by assumption))<|zh u0<|ze u1<|?_
  rcases CI (decide (lr y F=ByteArray.mk #[])) with h4|h4
  ·exact zf (nF h4)<|zh u2<|zh rT<|zq (s:=St.mk [Es,(7,.ak false)] [(2006,.an [sJ 6,sI (i:Int),.aP .u32 0,.aF [.J (lr y F)] false])]) ⟨rfl,_,_,_,_,rfl,by first|exact .inl rfl|exact .inr ⟨_,rfl⟩,by simp_all [lu]⟩ (tb:=[K0 2006,(2049,.dz)])
  ·exact zt (nT h4)<|zh u2<|zh rT<|zq (s:=St.mk [Es,(7,.ak true)] [(2006,.an [sJ 6,sI (i:Int),.aP .u32 0,.aF [.J (lr y F)] false])]) ⟨rfl,_,_,_,_,rfl,by first|exact .inl rfl|exact .inr ⟨_,rfl⟩,by simp_all [lu]⟩ (tb:=[K0 2006,(2049,.dz)])
theorem RZ (F:List ByteArray) (hx:x.bd[i]? =some y) (hk:y.k=2∨y.k=3) (hts:y.ts.length≤24) (hys:y.af.length<2199023255552):∃(k m:Int) (g:List ByteArray),Sp 242 [x.av,sI i,sS F] [] (.bC [.al [sJ k,sI i,.aP .u32 m,sS g],.ak (lu y F)]) []:=by
 have hx':0≤(i:Int)∧(x.bd.map Li.av)[Int.toNat (i:Int)]? =some y.av:=⟨by omega,by rw [Int.toNat_natCast,List.getElem?_map,hx];rfl⟩
 have hl:y.l.af.length+y.r.af.length≤y.af.length:=by simp [Li.af]
 have ha:aa [x.av,sI i,sS F]=true:=by simp [aa,aJ,Ru.av]
 have fin:∀{k m:Int} {g:AV} {b:Bool},(g= .ab∨∃s:ByteArray,g= .aF [.J s] false)→Rz 94 (ai Tryz.f242) ⟨[(0,x.av),(1,sI i),(2,sS F)],[]⟩ .aR ⟨[Es,(7,.ak b)],[(2006,.an [sJ k,sI i,.aP .u32 m,g])]⟩→∃(k m:Int) (g:List ByteArray),Sp 242 [x.av,sI i,sS F] [] (.bC [.al [sJ k,sI i,.aP .u32 m,sS g],.ak b]) []:=by
  intro k m g b hg r
  rcases hg with rfl|⟨s,rfl⟩
  ·exact ⟨k,m,[],bK.wkU (sP Tryz.f242 ha r (.inr rfl)) (.bz (uF.al (.bz (.bb _) (.bz (.bb _) (.bz (.bb _) (.bz .ab .iV))))) (.bz (.bb _) .iV))⟩
  ·exact ⟨k,m,[s],sP Tryz.f242 ha r (.inr rfl)⟩
 rcases hk with hk|hk
 ·obtain ⟨_,_,⟨rfl,k,m,g,_,rfl,hg,rfl⟩,r⟩:=RY x i y F hx' hts hys (by simp [hk]) (by simp [hk])
  exact fin hg r
 ·obtain ⟨_,_,⟨rfl,k,m,g,_,rfl,hg,rfl⟩,r⟩:=RX x i y F hx' (by omega) (by omega) hys (by simp [hk]) (by simp [hk])
  exact fin hg r
attribute [local simp,local grind] ly in
theorem Ia (hi:i<x.bd.length) (hsm:x.bd.length≤1000) (ht:0≤(i:Int)∧(tk.map AV.ak)[Int.toNat (i:Int)]? =some (.ak true)) (hx:0≤(i:Int)∧(x.bd.map Li.av)[Int.toNat (i:Int)]? =some y.av):En 87 (O Tryz.f199 0) ((ir x tk F 7 (i:Nat))) (fun e t=>(e= .aR∧ly F (y,true)=true∧t=po x i)∨(e= .aj∧ly F (y,true)=false∧t=ir x tk F 7 ((i+1:Nat):Int))):=aS Tryz.f199 2000 [1,2,3,7] [K1 2003]
attribute [local simp,local grind] jO in
theorem Ic (hi:i<x.bd.length) (hsm:x.bd.length≤1000) (ht:0≤(i:Int)∧(tk.map AV.ak)[Int.toNat (i:Int)]? =some (.ak true)) (hx:0≤(i:Int)∧(x.bd.map Li.av)[Int.toNat (i:Int)]? =some y.av):En 87 (O Tryz.f199 1) ((ir x tk F 8 (i:Nat))) (fun e t=>(e= .aR∧jO (y,true)=true∧t=po x i)∨(e= .aj∧jO (y,true)=false∧t=ir x tk F 8 ((i+1:Nat):Int))):=aS Tryz.f199 2000 [1,2,3,8] [K1 2003]
attribute [local simp,local grind] lz in
theorem Ie (hi:i<x.bd.length) (hsm:x.bd.length≤1000) (ht:0≤(i:Int)∧(tk.map AV.ak)[Int.toNat (i:Int)]? =some (.ak true)) (hx:0≤(i:Int)∧(x.bd.map Li.av)[Int.toNat (i:Int)]? =some y.av):En 87 (O Tryz.f199 2) ((ir x tk F 9 (i:Nat))) (fun e t=>(e= .aR∧lz F (y,true)=true∧t=po x i)∨(e= .aj∧lz F (y,true)=false∧t=ir x tk F 9 ((i+1:Nat):Int))):=aS Tryz.f199 2000 [1,2,3,9] [K1 2003]
attribute [local simp,local grind] ly in
theorem H' (hi:i<x.bd.length) (hsm:x.bd.length≤1000) (ht:0≤(i:Int)∧(tk.map AV.ak)[Int.toNat (i:Int)]? =some (.ak false)) (hx:0≤(i:Int)∧(x.bd.map Li.av)[Int.toNat (i:Int)]? =some y.av) (hys:y.af.length<2199023255552):En 87 (O Tryz.f199 0) ((ir x tk F 7 (i:Nat))) (fun e t=>(e= .aR∧ly F (y,false)=true∧t=po x i)∨(e= .aj∧ly F (y,false)=false∧t=ir x tk F 7 ((i+1:Nat):Int))):=aZ Tryz.f199 2000 [1,2,3,7] [6] [K1 2003]
attribute [local simp,local grind] jO in
theorem Ib (hi:i<x.bd.length) (hsm:x.bd.length≤1000) (ht:0≤(i:Int)∧(tk.map AV.ak)[Int.toNat (i:Int)]? =some (.ak false)) (hx:0≤(i:Int)∧(x.bd.map Li.av)[Int.toNat (i:Int)]? =some y.av):En 87 (O Tryz.f199 1) ((ir x tk F 8 (i:Nat))) (fun e t=>(e= .aR∧jO (y,false)=true∧t=po x i)∨(e= .aj∧jO (y,false)=false∧t=ir x tk F 8 ((i+1:Nat):Int))):=aZ Tryz.f199 2000 [1,2,3,8] [6] [K1 2003]
theorem Id (hi:i<x.bd.length) (hsm:x.bd.length≤1000) (ht:0≤(i:Int)∧(tk.map AV.ak)[Int.toNat (i:Int)]? =some (.ak false)) (hx:0≤(i:Int)∧(x.bd.map Li.av)[Int.toNat (i:Int)]? =some y.av) (k m:Int) (g:List ByteArray) (RZ:Sp 242 [.al [.J x.p,sA x.hd,sL x.bd],sI i,sS F] [] (.bC [.al [sJ k,sI i,.aP .u32 m,sS g],.ak (lu y F)]) []):En 87 (O Tryz.f199 2) ((ir x tk F 9 (i:Nat))) (fun e t=>(e= .aR∧lz F (y,false)=true∧t=po x i)∨(e= .aj∧lz F (y,false)=false∧t=ir x tk F 9 ((i+1:Nat):Int))):=by
 have hs0:=RZ
 have u0:decide ((↑i:Int)<(↑(List.length (List.map Li.av (Ru.bd x))):Int))=true:=by simp;omega
 refine zs 2000<|zt u0<|ze ht<|zc hs0<|?_
 cases hb1:lu y F with
 |true=>
  rw [hb1] at hs0
  exact zh rT<|zq (.inl ⟨rfl,by simp_all [lz],rfl⟩)
 |false=>
  rw [hb1] at hs0
  exact zh (w1 i (by omega))<|zh rT<|zq (.inr ⟨rfl,by simp_all [lz],rfl⟩)
theorem yH {P:Program} {n:Nat} {c:Code} {k:Nat} {bd:List Li} {tk:List Bool} (hl:tk.length=bd.length) (S:Nat→St) (T:St) (E:Nat→St) (p:Li×Bool→Bool)
  (turn:∀i y b,bd[i]? =some y→tk[i]? =some b→dm P n c (S i) (fun e t=>(e= .aR∧p (y,b)=true∧t=E i)∨(e= .aj∧p (y,b)=false∧t=S (i+1)))) (stop:dm P n c (S bd.length) (fun e t=>e= .ar k∧t=T)):
  (∃r,bJ P n c (S 0) .aR (E r)∧(bd.zip tk).zipIdx.findSome? (fV p)=some r)∨(bJ P n c (S 0) (.ar k) T∧(bd.zip tk).zipIdx.findSome? (fV p)=none):=by
 have hz:(bd.zip tk).zipIdx.length=bd.length:=by simp [hl]
 refine bN (l:=(bd.zip tk).zipIdx) S T E (fV p) (fun i hi=> ?_) (by rw [hz];exact stop)
 rw [hz] at hi
 have h1:bd[i]? =some bd[i]:=List.getElem?_eq_getElem hi
 have h2:tk[i]? =some tk[i]:=List.getElem?_eq_getElem (by omega)
 have h3:(bd.zip tk).zipIdx[i]? =some ((bd[i],tk[i]),i):=by
  rw [List.getElem?_zipIdx,(List.getElem?_zip_eq_some (z:=(bd[i],tk[i]))).2 ⟨h1,h2⟩];simp
 obtain ⟨e,t,⟨rfl,hp,rfl⟩|⟨rfl,hp,rfl⟩,r⟩:=turn i _ _ h1 h2
 ·exact ⟨_,_,.inl ⟨rfl,i,⟨_,h3,by simp [fV,hp]⟩,rfl⟩,r⟩
 ·exact ⟨_,_,.inr ⟨rfl,⟨_,h3,by simp [fV,hp]⟩,rfl⟩,r⟩
theorem tA {tk:List Bool} {i:Nat} {b:Bool} (h:tk[i]? =some b):0≤(i:Int)∧(tk.map AV.ak)[Int.toNat (i:Int)]? =some (.ak b):=⟨by omega,by rw [Int.toNat_natCast,List.getElem?_map,h];rfl⟩
theorem jC {bd:List Li} {i:Nat} {y:Li} (h:bd[i]? =some y):0≤(i:Int)∧(bd.map Li.av)[Int.toNat (i:Int)]? =some y.av:=⟨by omega,by rw [Int.toNat_natCast,List.getElem?_map,h];rfl⟩
theorem H7 (hl:tk.length=x.bd.length) (hsm:x.bd.length≤1000) (hys:∀y,y∈x.bd→y.af.length<2199023255552):
  (∃r,Lo 87 (O Tryz.f199 0) (ir x tk F 7 0) .aR (po x r)∧(x.bd.zip tk).zipIdx.findSome? (fV (ly F))=some r)∨(Lo 87 (O Tryz.f199 0) (ir x tk F 7 0) (.ar 0) ⟨[H5 tk,(2,sS F),H6],[(2003,.an [.J x.p,sA x.hd,sL x.bd])]⟩∧(x.bd.zip tk).zipIdx.findSome? (fV (ly F))=none):=
 yH hl (fun i=>ir x tk F 7 (i:Nat)) _ (po x) (ly F) (fun i y b h1 h2=>by
  have hi:=(List.getElem?_eq_some_iff.1 h1).1
  cases b with
  |true=>exact Ia x tk F i y hi hsm (tA h2) (jC h1)
  |false=>exact H' x tk F i y hi hsm (tA h2) (jC h1) (hys y (List.mem_of_getElem? h1))) (au Tryz.f199 2000)
theorem H8 (hl:tk.length=x.bd.length) (hsm:x.bd.length≤1000):
  (∃r,Lo 87 (O Tryz.f199 1) (ir x tk F 8 0) .aR (po x r)∧(x.bd.zip tk).zipIdx.findSome? (fV jO)=some r)∨(Lo 87 (O Tryz.f199 1) (ir x tk F 8 0) (.ar 2) ⟨[H5 tk,(2,sS F),H6],[(2003,.an [.J x.p,sA x.hd,sL x.bd])]⟩∧(x.bd.zip tk).zipIdx.findSome? (fV jO)=none):=
 yH hl (fun i=>ir x tk F 8 (i:Nat)) _ (po x) jO (fun i y b h1 h2=>by
  have hi:=(List.getElem?_eq_some_iff.1 h1).1
  cases b with
  |true=>exact Ic x tk F i y hi hsm (tA h2) (jC h1)
  |false=>exact Ib x tk F i y hi hsm (tA h2) (jC h1)) (au Tryz.f199 2000)
theorem BC {X:Type} {p:X→Bool} {l:List X} (h:l.zipIdx.findSome? (fV p)=none):∀z,z∈l→p z=false:=by
 intro z hz
 obtain ⟨i,hi⟩:=List.getElem?_of_mem hz
 have h3:l.zipIdx[i]? =some (z,i):=by rw [List.getElem?_zipIdx,hi];simp
 have:=List.findSome?_eq_none_iff.1 h _ (List.mem_of_getElem? h3)
 unfold fV at this
 split at this
 ·cases this
 ·rename_i h4;simpa using h4
theorem H9 (hl:tk.length=x.bd.length) (hsm:x.bd.length≤1000) (hb:∀y,y∈x.bd→(y.k=1∨y.k=2∨y.k=3)∧y.ts.length≤24∧y.af.length<2199023255552) (h1:(x.bd.zip tk).zipIdx.findSome? (fV jO)=none):
  (∃r,Lo 87 (O Tryz.f199 2) (ir x tk F 9 0) .aR (po x r)∧(x.bd.zip tk).zipIdx.findSome? (fV (lz F))=some r)∨(Lo 87 (O Tryz.f199 2) (ir x tk F 9 0) (.ar 4) ⟨[H5 tk,(2,sS F),H6],[(2003,.an [.J x.p,sA x.hd,sL x.bd])]⟩∧(x.bd.zip tk).zipIdx.findSome? (fV (lz F))=none):=
 yH hl (fun i=>ir x tk F 9 (i:Nat)) _ (po x) (lz F) (fun i y b g1 g2=>by
  have hi:=(List.getElem?_eq_some_iff.1 g1).1
  cases b with
  |true=>exact Ie x tk F i y hi hsm (tA g2) (jC g1)
  |false=>
   obtain ⟨q1,q2,q3⟩:=hb y (List.mem_of_getElem? g1)
   have q4:y.k≠1:=by
    have:=BC h1 (y,false) (List.mem_of_getElem? (i:=i) ((List.getElem?_zip_eq_some (z:=(y,false))).2 ⟨g1,g2⟩))
    simpa [jO] using this
   obtain ⟨k,m,g,sp⟩:=RZ x i y F g1 (q1.resolve_left q4) q2 q3
   exact Id x tk F i y hi hsm (tA g2) (jC g1) k m g sp) (au Tryz.f199 2000)
def jN (Z:List (Li×Bool)) (F:List ByteArray):Option Nat:=((Z.zipIdx.findSome? (fV (ly F))).or (Z.zipIdx.findSome? (fV jO))).or (Z.zipIdx.findSome? (fV (lz F)))
def iS (Z:List (Li×Bool)) (F:List ByteArray):Int:=match jN Z F with|some i=>(i:Int)|none=> -1
def Et (bd:List Li):Prop:=bd.length≤1000∧∀y,y∈bd→(y.k=1∨y.k=2∨y.k=3)∧y.ts.length≤24∧y.af.length<1000000
theorem Eu (hl:tk.length=x.bd.length) (hb:Et x.bd):Sp 199 [.al [.J x.p,sA x.hd,sL x.bd],.aF (tk.map .ak) false,sS F] [] (sI (iS (x.bd.zip tk) F)) []:=by
 rcases H7 x tk F hl hb.1 (fun y hy=>by have:=(hb.2 y hy).2.2;omega) with ⟨r,h0,e0⟩|⟨h0,e0⟩
 ·skip
  simp only [iS,jN,e0,Option.some_or]
  exact aK Tryz.f199 2000 87
 ·rcases H8 x tk F hl hb.1 with ⟨r,h1,e1⟩|⟨h1,e1⟩
  ·skip
   simp only [iS,jN,e0,e1,Option.some_or,Option.none_or]
   exact aK Tryz.f199 2000 87
  ·rcases H9 x tk F hl hb.1 (fun y hy=>by have:=hb.2 y hy;exact ⟨this.1,this.2.1,by omega⟩) e1 with ⟨r,h2,e2⟩|⟨h2,e2⟩
   ·skip
    simp only [iS,jN,e0,e1,e2,Option.none_or]
    exact aK Tryz.f199 2000 87
   ·skip
    simp only [iS,jN,e0,e1,e2,Option.none_or]
    exact aK Tryz.f199 2000 87
theorem dy (l:List Bool):aa (l.map AV.ak)=true:=a8.2 fun x hx=>by
 obtain ⟨t,_,rfl⟩:=List.mem_map.1 hx;rfl
theorem J0 (j n m:Nat) (hij:i≠j) (hn:n=tk.length) (hm:m=F.length) (hl:tk.length=x.bd.length) (hb:Et x.bd):Sp 199 [.al [.J x.p,sA x.hd,sL x.bd],.aw i 0 n,.aw j 0 m] [(i,.aw 1 (tk.map .ak)),(j,.aw 1 (F.map .J))] (sI (iS (x.bd.zip tk) F)) []:=
 bK.fi (Eu x tk F hl hb) [(i,.aw 1 (tk.map .ak)),(j,.aw 1 (F.map .J))] rfl (by simp [dl,dy]) (by simp [bW,dB,dK,eX,ae,hij]) (by simp [cu,el,dK,eX,ae,hij,hn,hm]) rfl
theorem J1 (n:Nat) (hn:n=tk.length) (hl:tk.length=x.bd.length) (hb:Et x.bd):Sp 199 [.al [.J x.p,sA x.hd,sL x.bd],.aw i 0 n,.aF [] true] [(i,.aw 1 (tk.map .ak))] (sI (iS (x.bd.zip tk) [])) []:=
 bK.fi ((Eu x tk [] hl hb).Dq (.bz (.bb _) (.bz (.bb _) (.bz (Wk.AY [] true) .iV)))) [(i,.aw 1 (tk.map .ak))] rfl (by simp [dl,dy]) (by simp [bW,dB,dK,eX,ae]) (by simp [cu,el,dK,eX,ae,hn]) rfl
def iA (n:Nat):AV:=sI (n:Int)
abbrev pf (G:List ByteArray) (x:Ru) (tk:List Bool) (F:List ByteArray) (out:List Nat) (i:Int):St:=⟨[(2,.aA 2002 0 0),(5,.aw 1005 0 F.length),(6,.aw 2015 0 tk.length),(7,.aO 1007 out.length),(8,sI i)],[(2002,.an [.J x.p,sA x.hd,sL x.bd]),(2015,.aw 1 (tk.map .ak)),(1005,.aw 1 (F.map .J)),(100000,.ao 1 (G.map .J)),(1007,.ao 1 (out.map iA))]⟩
abbrev ph (G:List ByteArray) (x:Ru) (tk:List Bool) (out:List Nat) (i:Int):St:=⟨[(2,.aA 2002 0 0),(5,.aF [] true),(6,.aw 2015 0 tk.length),(7,.aO 1007 out.length),(8,sI i)],[(2002,.an [.J x.p,sA x.hd,sL x.bd]),(2015,.aw 1 (tk.map .ak)),(100000,.ao 1 (G.map .J)),(1007,.ao 1 (out.map iA))]⟩
abbrev pe (G:List ByteArray) (out:List Nat):St:=⟨[(7,.aO 1007 out.length)],[(100000,.ao 1 (G.map .J)),(1007,.ao 1 (out.map iA))]⟩
@[simp] theorem X4 (n:Nat):c8 1 (iA n):=⟨rfl,by simp [iA,AV.ac,cj]⟩
@[simp] theorem Ev (n:Nat):aJ (iA n)=true:=rfl
@[simp] theorem MO (l:List Nat):aa (l.map iA)=true:=bI iA Ev l
theorem R2 (G:List ByteArray) (x:Ru) (tk:List Bool) (F:List ByteArray) (hF:F.length<1000000000000) (hl:tk.length=x.bd.length) (hsm:x.bd.length≤1000) (out:List Nat) (hout:out.length<1000000) (i:Nat) (y:Li) (hi:i<tk.length) (hx:0≤(i:Int)∧(x.bd.map Li.av)[Int.toNat (i:Int)]? =some y.av) (hys:y.af.length<1000000) (hvl:(ay y.af).length<1000000) (r:Int) (Eu:Sp 199 [.al [.J x.p,.aF (x.hd.map Ar.av) false,.aF (x.bd.map Li.av) false],.aw 2015 0 tk.length,.aw 2040 0 (F.length+(List.map AV.J (ay (Li.af y))).length)] [(2015,.aw 1 (List.set (List.map AV.ak tk) (0+Int.toNat (i:Int)) (AV.ak true))),(2040,.aw 1 (List.map AV.J F++(List.map AV.J (ay (Li.af y)))))] (.aP .i64 r) []):En 42 (O Tryz.f156 0) ((pf G x tk F out (i:Nat))) (fun eo so=>eo= .aj∧so=pf G x (tk.set i true) (F++ay y.af) (out++[i]) r):=by
 have hs0:=tm y (by omega)
 have hs1:=Eu
 exact ⟨cw.aj,St.mk [(2,AV.aA 2002 0 0),(5,AV.aw 1005 0 (List.length F+List.length (List.map AV.J (ay (Li.af y))))),(6,AV.aw 2015 0 (List.length tk)),(7,AV.aO 1007 (List.length out+List.length [AV.aP .i64 (↑i:Int)])),(8,AV.aP .i64 r)] [(2002,Ob.an [AV.J x.1,AV.aF (List.map Ar.av x.2) false,AV.aF (List.map Li.av x.3) false]),(2015,Ob.aw 1 (List.set (List.map AV.ak tk) (0+Int.toNat (↑i:Int)) (AV.ak true))),(1005,Ob.aw 1 (List.map AV.J F++List.map AV.J (ay (Li.af y)))),(100000,Ob.ao 1 (List.map AV.J G)),(1007,Ob.ao 1 (List.map iA out++[AV.aP .i64 (↑i:Int)]))],⟨rfl,by simp only [pf,ph,List.map_append,List.map_set,List.length_append,List.length_set,List.length_map,List.map_cons,List.map_nil,Int.toNat_natCast,Nat.zero_add,List.nil_append];rfl⟩,gA 2000 [.is true,.is true,.aA (Li.av y),.dO (.aF (List.map AV.J (ay (Li.af y))) false) [] [],.is true,.dO (.aP .i64 r) [2015,2040] []] [2,5,6,7,8] [(2002,.a6 2002 true),(2015,.a6 2015 true),(2040,.a6 1005 true),(100000,.a6 100000 true),(2029,.a6 1007 true)] (by kernel_rfl) (Kw rT (show 1≤List.length [AV.aP .i64 (i:Int)]∧List.length out=List.length (out.map iA)∧(∀(e:AV),e∈[AV.aP .i64 (i:Int)]→c8 1 e)∧(∀(e:AV),e∈List.map iA out→c8 1 e)∧(↑(List.length out+List.length [AV.aP .i64 (i:Int)]):Int)*8≤140737488355328∧List.length out+List.length [AV.aP .i64 (i:Int)]≤9223372036854775807 from by simp;omega) (show 0≤(i:Int)∧(i:Int)<(↑tk.length:Int) from by omega) (show 0+Int.toNat (i:Int)<List.length (tk.map AV.ak) from by simp;omega) hx hs0 (show True∧(0:Nat)=(0:Nat)∧List.length F=List.length (F.map AV.J)∧(∀(e:AV),e∈List.map AV.J (ay (Li.af y))→c8 (1:Nat) e)∧(∀(e:AV),e∈List.map AV.J F→c8 (1:Nat) e)∧(↑(List.length F+List.length (List.map AV.J (ay (Li.af y)))):Int)*(16:Int)≤(140737488355328:Int)∧List.length F+List.length (List.map AV.J (ay (Li.af y)))≤(9223372036854775807:Nat) from by simp;omega) hs1 rT (show aa (List.set (tk.map AV.ak) (0+Int.toNat (i:Int)) (AV.ak true))=true from by (rw [←List.map_set];exact dy _)) (show aa (List.map AV.J F++List.map AV.J (ay (Li.af y)))=true from by simp) (show aa (G.map AV.J)=true from by simp) (show aa (List.map iA out++[AV.aP .i64 (i:Int)])=true from by simp))⟩
theorem R3 (G:List ByteArray) (x:Ru) (tk:List Bool) (hl:tk.length=x.bd.length) (hsm:x.bd.length≤1000) (out:List Nat) (hout:out.length<1000000) (i:Nat) (y:Li) (hi:i<tk.length) (hx:0≤(i:Int)∧(x.bd.map Li.av)[Int.toNat (i:Int)]? =some y.av) (hys:y.af.length<1000000) (hvl:(ay y.af).length<1000000) (r:Int) (hne:(List.map AV.J (ay (Li.af y)))≠[]) (Eu:Sp 199 [.al [.J x.p,.aF (x.hd.map Ar.av) false,.aF (x.bd.map Li.av) false],.aw 2015 0 tk.length,.aw 2040 0 (([]:List AV).length+(List.map AV.J (ay (Li.af y))).length)] [(2015,.aw 1 (List.set (List.map AV.ak tk) (0+Int.toNat (i:Int)) (AV.ak true))),(2040,.aw 1 ([]++(List.map AV.J (ay (Li.af y)))))] (.aP .i64 r) []):En 42 (O Tryz.f156 0) ((ph G x tk out (i:Nat))) (fun eo so=>eo= .aj∧so=pf G x (tk.set i true) (ay y.af) (out++[i]) r):=by
 have hs0:=tm y (by omega)
 have hs1:=Eu
 exact ⟨cw.aj,St.mk [(2,AV.aA 2002 0 0),(5,AV.aw 1005 0 (0+List.length (List.map AV.J (ay (Li.af y))))),(6,AV.aw 2015 0 (List.length tk)),(7,AV.aO 1007 (List.length out+List.length [AV.aP .i64 (↑i:Int)])),(8,AV.aP .i64 r)] [(2002,Ob.an [AV.J x.1,AV.aF (List.map Ar.av x.2) false,AV.aF (List.map Li.av x.3) false]),(2015,Ob.aw 1 (List.set (List.map AV.ak tk) (0+Int.toNat (↑i:Int)) (AV.ak true))),(1005,Ob.aw 1 ([]++List.map AV.J (ay (Li.af y)))),(100000,Ob.ao 1 (List.map AV.J G)),(1007,Ob.ao 1 (List.map iA out++[AV.aP .i64 (↑i:Int)]))],⟨rfl,by simp only [pf,ph,List.map_append,List.map_set,List.length_append,List.length_set,List.length_map,List.map_cons,List.map_nil,Int.toNat_natCast,Nat.zero_add,List.nil_append];rfl⟩,gA 2000 [.is true,.is true,.aA (Li.av y),.dO (.aF (List.map AV.J (ay (Li.af y))) false) [] [],.is true,.dO (.aP .i64 r) [2015,2040] []] [2,5,6,7,8] [(2002,.a6 2002 true),(2015,.a6 2015 true),(2040,.a6 1005 true),(100000,.a6 100000 true),(2029,.a6 1007 true)] (by kernel_rfl) (Kw rT (show 1≤List.length [AV.aP .i64 (i:Int)]∧List.length out=List.length (out.map iA)∧(∀(e:AV),e∈[AV.aP .i64 (i:Int)]→c8 1 e)∧(∀(e:AV),e∈List.map iA out→c8 1 e)∧(↑(List.length out+List.length [AV.aP .i64 (i:Int)]):Int)*8≤140737488355328∧List.length out+List.length [AV.aP .i64 (i:Int)]≤9223372036854775807 from by simp;omega) (show 0≤(i:Int)∧(i:Int)<(↑tk.length:Int) from by omega) (show 0+Int.toNat (i:Int)<List.length (tk.map AV.ak) from by simp;omega) hx hs0 (show True∧List.map AV.J (ay (Li.af y))≠[]∧(∀(e:AV),e∈List.map AV.J (ay (Li.af y))→c8 1 e)∧(∀(e:AV),e∈[]→c8 1 e)∧(↑(0+List.length (List.map AV.J (ay (Li.af y)))):Int)*16≤140737488355328∧0+List.length (List.map AV.J (ay (Li.af y)))≤9223372036854775807 from by (refine ⟨trivial,by simpa using hne,by simp,by simp,?_,?_⟩<;>(simp;omega))) hs1 rT (show aa (List.set (tk.map AV.ak) (0+Int.toNat (i:Int)) (AV.ak true))=true from by (rw [←List.map_set];exact dy _)) (show aa ([]++List.map AV.J (ay (Li.af y)))=true from by simp) (show aa (G.map AV.J)=true from by simp) (show aa (List.map iA out++[AV.aP .i64 (i:Int)])=true from by simp))⟩
theorem R1 (G:List ByteArray) (x:Ru) (tk:List Bool) (hl:tk.length=x.bd.length) (hsm:x.bd.length≤1000) (out:List Nat) (hout:out.length<1000000) (i:Nat) (y:Li) (hi:i<tk.length) (hx:0≤(i:Int)∧(x.bd.map Li.av)[Int.toNat (i:Int)]? =some y.av) (hys:y.af.length<1000000) (hvl:(ay y.af).length<1000000) (r:Int) (hne:(List.map AV.J (ay (Li.af y)))=[]) (Eu:Sp 199 [.al [.J x.p,.aF (x.hd.map Ar.av) false,.aF (x.bd.map Li.av) false],.aw 2015 0 tk.length,.aF [] true] [(2015,.aw 1 (List.set (List.map AV.ak tk) (0+Int.toNat (i:Int)) (AV.ak true)))] (.aP .i64 r) []):En 42 (O Tryz.f156 0) ((ph G x tk out (i:Nat))) (fun eo so=>eo= .aj∧so=ph G x (tk.set i true) (out++[i]) r):=by
 have hs0:=tm y (by omega)
 have hs1:=Eu
 exact ⟨cw.aj,St.mk [(2,AV.aA 2002 0 0),(5,AV.aF [] true),(6,AV.aw 2015 0 (List.length tk)),(7,AV.aO 1007 (List.length out+List.length [AV.aP .i64 (↑i:Int)])),(8,AV.aP .i64 r)] [(2002,Ob.an [AV.J x.1,AV.aF (List.map Ar.av x.2) false,AV.aF (List.map Li.av x.3) false]),(2015,Ob.aw 1 (List.set (List.map AV.ak tk) (0+Int.toNat (↑i:Int)) (AV.ak true))),(100000,Ob.ao 1 (List.map AV.J G)),(1007,Ob.ao 1 (List.map iA out++[AV.aP .i64 (↑i:Int)]))],⟨rfl,by simp only [pf,ph,List.map_append,List.map_set,List.length_append,List.length_set,List.length_map,List.map_cons,List.map_nil,Int.toNat_natCast,Nat.zero_add,List.nil_append];rfl⟩,gA 2000 [.is true,.is true,.aA (Li.av y),.dO (.aF (List.map AV.J (ay (Li.af y))) false) [] [],.is false,.dO (.aP .i64 r) [2015] []] [2,5,6,7,8] [(2002,.a6 2002 true),(2015,.a6 2015 true),(100000,.a6 100000 true),(2029,.a6 1007 true)] (by kernel_rfl) (UB rT (show 1≤List.length [AV.aP .i64 (i:Int)]∧List.length out=List.length (out.map iA)∧(∀(e:AV),e∈[AV.aP .i64 (i:Int)]→c8 1 e)∧(∀(e:AV),e∈List.map iA out→c8 1 e)∧(↑(List.length out+List.length [AV.aP .i64 (i:Int)]):Int)*8≤140737488355328∧List.length out+List.length [AV.aP .i64 (i:Int)]≤9223372036854775807 from by simp;omega) (show 0≤(i:Int)∧(i:Int)<(↑tk.length:Int) from by omega) (show 0+Int.toNat (i:Int)<List.length (tk.map AV.ak) from by simp;omega) hx hs0 (show True∧List.map AV.J (ay (Li.af y))=[] from by simp at*;omega) hs1 rT (show aa (List.set (tk.map AV.ak) (0+Int.toNat (i:Int)) (AV.ak true))=true from by (rw [←List.map_set];exact dy _)) (show aa (G.map AV.J)=true from by simp) (show aa (List.map iA out++[AV.aP .i64 (i:Int)])=true from by simp))⟩
theorem JY (out:List Nat):En 42 (O Tryz.f156 0) ((pf G x tk F out (-1))) (fun eo so=>eo= .ar 0∧so=pe G out):=au Tryz.f156 2000
theorem JZ (out:List Nat):En 42 (O Tryz.f156 0) ((ph G x tk out (-1))) (fun eo so=>eo= .ar 0∧so=pe G out):=au Tryz.f156 2000
def gY (bd:List Li):Nat→List Bool→List ByteArray→List Nat
 |0,_,_=>[]
 |n+1,tk,F=>match jN (bd.zip tk) F with
  |none=>[]
  |some i=>i::gY bd n (tk.set i true) (F++ay ((bd[i]?.map Li.af).getD []))
def jp (bd:List Li) (F:List ByteArray):List Nat:=gY bd bd.length (List.replicate bd.length false) F
theorem BD {X:Type} {p:X→Bool} {l:List X} {r:Nat} (h:l.zipIdx.findSome? (fV p)=some r):∃z,l[r]? =some z∧p z=true:=by
 obtain ⟨z,hz,he⟩:=List.exists_of_findSome?_eq_some h
 obtain ⟨i,hi⟩:=List.getElem?_of_mem hz
 rw [List.getElem?_zipIdx] at hi
 cases hl:l[i]? with
 |none=>rw [hl] at hi;cases hi
 |some w=>
  rw [hl] at hi
  simp only [Option.map_some,Option.some.injEq,Nat.zero_add] at hi
  subst hi
  unfold fV at he
  split at he
  ·injection he with he;subst he;exact ⟨w,hl,by assumption⟩
  ·cases he
theorem iR {bd:List Li} {tk:List Bool} {F:List ByteArray} {i:Nat} (h:jN (bd.zip tk) F=some i):∃y,bd[i]? =some y∧tk[i]? =some false:=by
 have go:∀{p:Li×Bool→Bool},(∀z,p z=true→z.2=false)→(bd.zip tk).zipIdx.findSome? (fV p)=some i→∃y,bd[i]? =some y∧tk[i]? =some false:=by
  intro p hp h
  obtain ⟨⟨y,b⟩,h1,h2⟩:=BD h
  have:=hp _ h2
  simp only at this;subst this
  exact ⟨y,List.getElem?_zip_eq_some.1 h1⟩
 unfold jN at h
 rcases Option.or_eq_some_iff.1 h with h|⟨_,h⟩
 ·rcases Option.or_eq_some_iff.1 h with h|⟨_,h⟩
  ·exact go (fun z hz=>by simp [ly] at hz;exact hz.1.1) h
  ·exact go (fun z hz=>by simp [jO] at hz;exact hz.1) h
 ·exact go (fun z hz=>by simp [lz] at hz;exact hz.1) h
theorem iQ:∀{tk:List Bool} {i:Nat},tk[i]? =some false→(tk.set i true).count false+1=tk.count false
 |b::r,0,h=>by simp at h;subst h;simp
 |b::r,i+1,h=>by
  have:=iQ (tk:=r) (i:=i) (by simpa using h)
  rw [List.set_cons_succ,List.count_cons,List.count_cons]
  omega
theorem J2 (hb:Et x.bd):∀(n:Nat) (tk:List Bool) (F:List ByteArray) (out:List Nat),tk.length=x.bd.length→tk.count false≤n→n≤1000→F.length+n*1000000<1000000000000→out.length+n<1000000→
  Lo 42 (O Tryz.f156 0) (pf G x tk F out (iS (x.bd.zip tk) F)) (.ar 0) (pe G (out++gY x.bd n tk F)):=by
 intro n
 induction n with
 |zero=>
  intro tk F out hl hc _ _ _
  cases h:jN (x.bd.zip tk) F with
  |some i=>
   obtain ⟨y,_,h2⟩:=iR h
   have:=iQ h2
   omega
  |none=>
   obtain ⟨e,t,⟨rfl,rfl⟩,r⟩:=JY G x tk F out
   simp only [iS,h,gY,List.append_nil]
   exact .bD r (by simp)
 |succ n ih=>
  intro tk F out hl hc hn hF ho
  cases h:jN (x.bd.zip tk) F with
  |none=>
   obtain ⟨e,t,⟨rfl,rfl⟩,r⟩:=JY G x tk F out
   simp only [iS,h,gY,List.append_nil]
   exact .bD r (by simp)
  |some i=>
   obtain ⟨y,h1,h2⟩:=iR h
   have hcs:=iQ h2
   have hi:=(List.getElem?_eq_some_iff.1 h2).1
   have hy:=hb.2 y (List.mem_of_getElem? h1)
   have hv:=bU y.af
   have sp:=J0 x (tk.set i true) (F++ay y.af) 2015 2040 tk.length (F.length+(List.map AV.J (ay (Li.af y))).length) (by decide) (by simp) (by simp) (by simpa using hl) hb
   rw [List.map_set,List.map_append] at sp
   obtain ⟨e,t,⟨rfl,rfl⟩,r⟩:=R2 G x tk F (by omega) hl hb.1 out (by omega) i y hi (jC h1) hy.2.2 (by omega) _ (by simpa using sp)
   have g:=ih (tk.set i true) (F++ay y.af) (out++[i]) (by simpa using hl) (by omega) (by omega) (by rw [List.length_append];omega) (by rw [List.length_append];simp;omega)
   simp only [iS,h]
   simp only [gY,h,h1,Option.map_some,Option.getD_some]
   rw [List.append_assoc,List.singleton_append] at g
   exact .cR r g
theorem R0 (hb:Et x.bd):∀(n:Nat) (tk:List Bool) (out:List Nat),tk.length=x.bd.length→tk.count false≤n→n≤1000→out.length+n<1000000→
  Lo 42 (O Tryz.f156 0) (ph G x tk out (iS (x.bd.zip tk) [])) (.ar 0) (pe G (out++gY x.bd n tk [])):=by
 intro n
 induction n with
 |zero=>
  intro tk out hl hc _ _
  cases h:jN (x.bd.zip tk) [] with
  |some i=>
   obtain ⟨y,_,h2⟩:=iR h
   have:=iQ h2
   omega
  |none=>
   obtain ⟨e,t,⟨rfl,rfl⟩,r⟩:=JZ G x tk out
   simp only [iS,h,gY,List.append_nil]
   exact .bD r (by simp)
 |succ n ih=>
  intro tk out hl hc hn ho
  cases h:jN (x.bd.zip tk) [] with
  |none=>
   obtain ⟨e,t,⟨rfl,rfl⟩,r⟩:=JZ G x tk out
   simp only [iS,h,gY,List.append_nil]
   exact .bD r (by simp)
  |some i=>
   obtain ⟨y,h1,h2⟩:=iR h
   have hcs:=iQ h2
   have hi:=(List.getElem?_eq_some_iff.1 h2).1
   have hy:=hb.2 y (List.mem_of_getElem? h1)
   have hv:=bU y.af
   simp only [iS,h]
   simp only [gY,h,h1,Option.map_some,Option.getD_some,List.nil_append]
   by_cases hne:ay y.af=[]
   ·have sp:=J1 x (tk.set i true) 2015 tk.length (by simp) (by simpa using hl) hb
    rw [List.map_set] at sp
    obtain ⟨e,t,⟨rfl,rfl⟩,r⟩:=R1 G x tk hl hb.1 out (by omega) i y hi (jC h1) hy.2.2 (by omega) _ (by simpa using hne) (by simpa using sp)
    have g:=ih (tk.set i true) (out++[i]) (by simpa using hl) (by omega) (by omega) (by rw [List.length_append];simp;omega)
    rw [List.append_assoc,List.singleton_append] at g
    rw [hne]
    exact .cR r g
   ·have sp:=J0 x (tk.set i true) (ay y.af) 2015 2040 tk.length (([]:List AV).length+(List.map AV.J (ay (Li.af y))).length) (by decide) (by simp) (by simp) (by simpa using hl) hb
    rw [List.map_set] at sp
    obtain ⟨e,t,⟨rfl,rfl⟩,r⟩:=R3 G x tk hl hb.1 out (by omega) i y hi (jC h1) hy.2.2 (by omega) _ (by simpa using hne) (by simpa using sp)
    have g:=J2 G x hb n (tk.set i true) (ay y.af) (out++[i]) (by simpa using hl) (by omega) (by omega) (by omega) (by rw [List.length_append];simp;omega)
    rw [List.append_assoc,List.singleton_append] at g
    exact .cR r g
theorem RU (hsm:x.bd.length≤1000) (hF:F.length<1000000) (M:List Nat) (r:Int) (hne:(List.take F.length (F.map AV.J))≠[]) (Eu:Sp 199 [.al [.J x.p,sA x.hd,sL x.bd],.aw 2015 0 (Int.toNat (((x.bd.map Li.av).length:Nat):Int)),.aw 2011 0 (([]:List AV).length+(List.take F.length (F.map AV.J)).length)] [(2011,.aw 1 ([]++(List.take F.length (F.map AV.J)))),(2015,.aw 1 (List.replicate (Int.toNat (((x.bd.map Li.av).length:Nat):Int)) (.ak false)))] (sI r) []) (l156_0q:Lo 42 (O Tryz.f156 0) ⟨[(2,.aA 2002 0 0),(5,.aw 2011 0 (([]:List AV).length+(List.take F.length (F.map AV.J)).length)),(6,.aw 2015 0 (Int.toNat (((x.bd.map Li.av).length:Nat):Int))),(7,.ab),(8,sI r)],[(100000,.ao 1 (F.map .J)),(2002,.an [.J x.p,sA x.hd,sL x.bd]),(2011,.aw 1 ([]++(List.take F.length (F.map AV.J)))),(2015,.aw 1 (List.replicate (Int.toNat (((x.bd.map Li.av).length:Nat):Int)) (.ak false)))]⟩ (.ar 0) (pe F M)):En 42 (ai Tryz.f156) (⟨[(0,.al [.J x.p,sA x.hd,sL x.bd]),(1,.aO 100000 F.length)],[(100000,.ao 1 (F.map .J))]⟩) (fun eo so=>eo= .aR∧so=⟨[(4,.aF (M.map iA) false)],[(100000,.ao 1 (F.map .J))]⟩):=by
 exact zs 2000<|zh (show List.length F≤List.length (F.map AV.J)∧List.take F.length (F.map AV.J)≠[]∧(∀(e:AV),e∈List.take F.length (F.map AV.J)→c8 1 e)∧(∀(e:AV),e∈[]→c8 1 e)∧(↑(0+List.length (List.take F.length (F.map AV.J))):Int)*16≤140737488355328∧0+List.length (List.take F.length (F.map AV.J))≤9223372036854775807 from by (refine ⟨by simp,by assumption,by (intro e he;have h8:=List.mem_of_mem_take he;obtain ⟨z,_,rfl⟩:=List.mem_map.1 h8;simp),by simp,?_,?_⟩<;>(simp [List.length_take];omega)))<|zh (show (↑(List.length (List.map Li.av x.3)):Int)=(↑(List.length (List.map Li.av x.3)):Int)∧0≤(↑(List.length (List.map Li.av x.3)):Int)∧(↑(List.length (List.map Li.av x.3)):Int)*1≤140737488355328∧(↑(List.length (List.map Li.av x.3)):Int)≤9223372036854775807 from by simp;omega)<|zd (.is true)<|zc Eu<|zh (zN (F.map AV.J))<|zh rT<|zh (zN ([]++List.take F.length (F.map AV.J)))<|zh (zN (List.replicate (Int.toNat (↑(List.length (List.map Li.av x.3)):Int)) (.ak false)))<|zd (.g8 [2,5,6,7,8] [K1 100000,K1 2002,K1 2011,K1 2015])<|zl l156_0q<|zh (show List.length M=List.length (M.map Ped.iA) from by simp)<|zh (zN (F.map AV.J))<|zh (zN (M.map Ped.iA))<|zq ⟨rfl,rfl⟩ (tb:=[K1 100000,(1007,.dz)])
theorem RW (hsm:x.bd.length≤1000) (hF:F.length<1000000) (M:List Nat) (r:Int) (hne:(List.take F.length (F.map AV.J))=[]) (Eu:Sp 199 [.al [.J x.p,sA x.hd,sL x.bd],.aw 2015 0 (Int.toNat (((x.bd.map Li.av).length:Nat):Int)),.aF [] true] [(2015,.aw 1 (List.replicate (Int.toNat (((x.bd.map Li.av).length:Nat):Int)) (.ak false)))] (sI r) []) (l156_0q:Lo 42 (O Tryz.f156 0) ⟨[(2,.aA 2002 0 0),(5,.aF [] true),(6,.aw 2015 0 (Int.toNat (((x.bd.map Li.av).length:Nat):Int))),(7,.ab),(8,sI r)],[(100000,.ao 1 (F.map .J)),(2002,.an [.J x.p,sA x.hd,sL x.bd]),(2015,.aw 1 (List.replicate (Int.toNat (((x.bd.map Li.av).length:Nat):Int)) (.ak false)))]⟩ (.ar 0) (pe F M)):En 42 (ai Tryz.f156) (⟨[(0,.al [.J x.p,sA x.hd,sL x.bd]),(1,.aO 100000 F.length)],[(100000,.ao 1 (F.map .J))]⟩) (fun eo so=>eo= .aR∧so=⟨[(4,.aF (M.map iA) false)],[(100000,.ao 1 (F.map .J))]⟩):=by
 have o0:=Eu
 have o1:=l156_0q
 exact au Tryz.f156 2000
end
section
variable (rs:List Ru) (x:Ru) (p s nm:ByteArray) (F:List ByteArray) (n:Nat)
theorem uZ (q:Nat) (h:q<10):((UInt8.ofNat (48+q)).toNat:Int)=48+(q:Int):=by
 simp only [UInt8.toNat_ofNat'];omega
theorem wr8 (h:n<10):IntKind.u8.wrap (48+(n:Int))=48+(n:Int):=by
 simp only [IntKind.wrap,IntKind.bits,IntKind.signed];simp;omega
theorem tx8 (h:n<10):(0=0∧1=(ByteArray.mk #[UInt8.ofNat (48+n)]).size∧List.take 1 [AV.aP .u8 (48+(n:Int))]=List.map (fun (b:UInt8)=>AV.aP .u8 b.toNat) (ByteArray.mk #[UInt8.ofNat (48+n)]).data.toList):=⟨rfl,rfl,by show [AV.aP .u8 (48+(n:Int))]=[AV.aP .u8 ((UInt8.ofNat (48+n)).toNat:Int)];rw [uZ n h]⟩
theorem Yb (h:n<10):Sp 158 [sI n] [] (.J ⟨#[UInt8.ofNat (48+n)]⟩) []:=by
 have h1:=wr8 n h
 have h2:=tx8 n h
 refine au Tryz.f158 2000 true (fun h=>zK Tryz.f158 17 h) ?_
 repeat' (
  go_invoke
  first
  |refine UF (by kernel_rfl) cs ?_
  |refine g_t ct ?_
  |(refine g_n (by kernel_rfl) ⟨rfl,rfl⟩ ?_;go_invoke;refine UE (by kernel_rfl) ce cs)
  |refine PL ⟨#[UInt8.ofNat (48+n)]⟩ ?_)
theorem rk1 (h:n<100) (h1:10≤n):Sp 158 [sI n] [] (.J (⟨#[UInt8.ofNat (48+n/10)]⟩++⟨#[UInt8.ofNat (48+n%10)]⟩)) []:=by
 have o1:=Yb (n/10) (by omega)
 have o2:=Yb (n%10) (by omega)
 rw [←show IntKind.wrap .i64 (Int.tdiv n 10)=((n/10:Nat):Int) from bA (n:=((n/10:Nat):Int)) (by omega) (by omega)] at o1
 rw [←show Int.tmod n 10=((n%10:Nat):Int) from rfl] at o2
 exact aK Tryz.f158 2000 17
theorem Sb (h:n<25):Sp 158 [sI n] [] (.J ⟨(Lib.itoa (n:Nat)).toArray⟩) []:=by
 have e:∀n,n<25→(Lib.itoa (n:Nat))=if n<10 then [UInt8.ofNat (48+n)] else [UInt8.ofNat (48+n/10),UInt8.ofNat (48+n%10)]:=of_decide_eq_true (by kernel_rfl)
 rw [e n h]
 split
 ·exact Yb n (by omega)
 ·exact rk1 n (by omega) (by omega)
theorem R' (tk:List Bool) (F:List ByteArray) (i j n m:Nat) (hij:i≠j) (hn:n=tk.length) (hm:m=F.length) (hl:tk.length=x.bd.length) (hb:Et x.bd):Sp 199 [.al [.J x.p,sA x.hd,sL x.bd],.aw i 0 n,.aw j 0 m] [(j,.aw 1 (F.map .J)),(i,.aw 1 (tk.map .ak))] (sI (iS (x.bd.zip tk) F)) []:=
 bK.fi (Eu x tk F hl hb) [(j,.aw 1 (F.map .J)),(i,.aw 1 (tk.map .ak))] rfl (by simp [dl,dy]) (by simp [bW,dB,dK,eX,ae,hij,hij.symm]) (by simp [cu,el,dK,eX,ae,hij,hij.symm,hn,hm]) rfl
theorem R8 (x:Ru) (F:List ByteArray) (hb:Et x.bd) (hF:F.length<1000000):Sp 156 [.al [.J x.p,sA x.hd,sL x.bd],.aO 100000 F.length] [(100000,.ao 1 (F.map .J))] (.aF ((jp x.bd F).map iA) false) [(100000,.ao 1 (F.map .J))]:=by
 have hN:(Int.toNat (((x.bd.map Li.av).length:Nat):Int))=x.bd.length:=by simp
 have hTK:(List.take F.length (F.map AV.J))=F.map AV.J:=List.take_of_length_le (by simp)
 have fin:∀{M:List Nat},Rz 42 (ai Tryz.f156) ⟨[(0,.al [.J x.p,sA x.hd,sL x.bd]),(1,.aO 100000 F.length)],[(100000,.ao 1 (F.map .J))]⟩ .aR ⟨[(4,.aF (M.map iA) false)],[(100000,.ao 1 (F.map .J))]⟩→Sp 156 [.al [.J x.p,sA x.hd,sL x.bd],.aO 100000 F.length] [(100000,.ao 1 (F.map .J))] (.aF (M.map iA) false) [(100000,.ao 1 (F.map .J))]:=fun r=>
  bK.vR (fn:=Tryz.f156) (c:=ai Tryz.f156) (pre:=[(100000,.ao 1 (F.map .J))]) (args:=[.al [.J x.p,sA x.hd,sL x.bd],.aO 100000 F.length]) (by kernel_rfl) (by kernel_rfl) rfl rfl (by simp [bW,dB,gX,ae]) (fun id o h=>by simp at h;obtain ⟨rfl,rfl⟩:=h;simp [bg,aM _ _ (bI AV.J (fun _=>rfl) F)]) r (.inr rfl) (by kernel_rfl)
 have hc:(List.replicate (Int.toNat (((x.bd.map Li.av).length:Nat):Int)) false).count false=x.bd.length:=by simp
 by_cases hne:F=[]
 ·subst hne
  have sp:=J1 x (List.replicate (Int.toNat (((x.bd.map Li.av).length:Nat):Int)) false) 2015 (Int.toNat (((x.bd.map Li.av).length:Nat):Int)) (by simp) (by simp) hb
  have h:=R0 [] x hb x.bd.length (List.replicate (Int.toNat (((x.bd.map Li.av).length:Nat):Int)) false) [] (by simp) (by omega) hb.1 (by have:=hb.1;simp;omega)
  rw [List.nil_append] at h
  have e:gY x.bd x.bd.length (List.replicate (Int.toNat (((x.bd.map Li.av).length:Nat):Int)) false) []=jp x.bd []:=by unfold jp;rw [hN]
  rw [e] at h
  have h2:Lo 42 (O Tryz.f156 0) ⟨[(2,.aA 2002 0 0),(5,.aF [] true),(6,.aw 2015 0 (List.replicate (Int.toNat (((x.bd.map Li.av).length:Nat):Int)) false).length),(7,.ab),(8,sI (iS (x.bd.zip (List.replicate (Int.toNat (((x.bd.map Li.av).length:Nat):Int)) false)) []))],[(2002,.an [.J x.p,sA x.hd,sL x.bd]),(2015,.aw 1 ((List.replicate (Int.toNat (((x.bd.map Li.av).length:Nat):Int)) false).map .ak)),(100000,.ao 1 (([]:List ByteArray).map .J))]⟩ (.ar 0) (pe [] (jp x.bd [])):=h.ez (b5 7 1007 1 rfl rfl)
  rw [List.map_replicate,List.length_replicate] at h2
  rw [List.map_replicate] at sp
  have h3:=bJ.a6 (st:=⟨[(2,.aA 2002 0 0),(5,.aF [] true),(6,.aw 2015 0 (Int.toNat (((x.bd.map Li.av).length:Nat):Int))),(7,.ab),(8,sI (iS (x.bd.zip (List.replicate (Int.toNat (((x.bd.map Li.av).length:Nat):Int)) false)) []))],[(100000,.ao 1 (([]:List ByteArray).map .J)),(2002,.an [.J x.p,sA x.hd,sL x.bd]),(2015,.aw 1 (List.replicate (Int.toNat (((x.bd.map Li.av).length:Nat):Int)) (.ak false)))]⟩) [2,5,6,7,8] [K0 2002,K1 2015,K0 100000] h2 (cs:=[aa (List.replicate (Int.toNat (((x.bd.map Li.av).length:Nat):Int)) (AV.ak false))=true]) rfl ⟨by rw [←List.map_replicate];exact dy _,trivial⟩
  obtain ⟨_,_,⟨rfl,rfl⟩,r⟩:=RW x [] hb.1 hF _ _ rfl sp h3
  exact fin r
 ·have sp:=R' x (List.replicate (Int.toNat (((x.bd.map Li.av).length:Nat):Int)) false) F 2015 2011 (Int.toNat (((x.bd.map Li.av).length:Nat):Int)) (([]:List AV).length+(List.take F.length (F.map AV.J)).length) (by decide) (by simp) (by simp) (by simp) hb
  have h:=J2 F x hb x.bd.length (List.replicate (Int.toNat (((x.bd.map Li.av).length:Nat):Int)) false) F [] (by simp) (by omega) hb.1 (by have:=hb.1;omega) (by have:=hb.1;simp;omega)
  rw [List.nil_append] at h
  have e:gY x.bd x.bd.length (List.replicate (Int.toNat (((x.bd.map Li.av).length:Nat):Int)) false) F=jp x.bd F:=by unfold jp;rw [hN]
  rw [e] at h
  have h2:Lo 42 (O Tryz.f156 0) ⟨[(2,.aA 2002 0 0),(5,.aw 1005 0 F.length),(6,.aw 2015 0 (List.replicate (Int.toNat (((x.bd.map Li.av).length:Nat):Int)) false).length),(7,.ab),(8,sI (iS (x.bd.zip (List.replicate (Int.toNat (((x.bd.map Li.av).length:Nat):Int)) false)) F))],[(2002,.an [.J x.p,sA x.hd,sL x.bd]),(2015,.aw 1 ((List.replicate (Int.toNat (((x.bd.map Li.av).length:Nat):Int)) false).map .ak)),(1005,.aw 1 (F.map .J)),(100000,.ao 1 (F.map .J))]⟩ (.ar 0) (pe F (jp x.bd F)):=h.ez (b5 7 1007 1 rfl rfl)
  have eF:AV.aw 1005 0 F.length=AV.aw 1005 0 (([]:List AV).length+(List.take F.length (F.map AV.J)).length):=by simp
  have eG:Ob.aw 1 (F.map AV.J)=Ob.aw 1 ([]++(List.take F.length (F.map AV.J))):=by rw [hTK];rfl
  rw [List.map_replicate,List.length_replicate,eF,eG] at h2
  rw [List.map_replicate,eG] at sp
  have h3:=bJ.a6 (st:=⟨[(2,.aA 2002 0 0),(5,.aw 2011 0 (([]:List AV).length+(List.take F.length (F.map AV.J)).length)),(6,.aw 2015 0 (Int.toNat (((x.bd.map Li.av).length:Nat):Int))),(7,.ab),(8,sI (iS (x.bd.zip (List.replicate (Int.toNat (((x.bd.map Li.av).length:Nat):Int)) false)) F))],[(100000,.ao 1 (F.map .J)),(2002,.an [.J x.p,sA x.hd,sL x.bd]),(2011,.aw 1 ([]++(List.take F.length (F.map AV.J)))),(2015,.aw 1 (List.replicate (Int.toNat (((x.bd.map Li.av).length:Nat):Int)) (.ak false)))]⟩) [2,5,6,7,8] [K0 2002,K1 2015,(2011,.a6 1005 true),K1 100000] h2 (cs:=[aa (List.replicate (Int.toNat (((x.bd.map Li.av).length:Nat):Int)) (AV.ak false))=true,aa ([]++(List.take F.length (F.map AV.J)))=true,aa (F.map AV.J)=true]) rfl ⟨by rw [←List.map_replicate];exact dy _,by rw [hTK];simp,by simp,trivial⟩
  obtain ⟨_,_,⟨rfl,rfl⟩,r⟩:=RU x F hb.1 hF _ _ (by rw [hTK];simpa using hne) sp h3
  exact fin r
theorem R6 (hs:x.hd.length≤s.size) (h:x.hd.length<2199023255552):Sp 155 [.al [.J x.p,sA x.hd,sL x.bd],.J s] [] (.aO 1155 (dV s x.hd).length) [(1155,.ao 1 ((dV s x.hd).map .J))]:=by
 have y0r:=(Gy x.p x.hd x.bd s h hs rfl)
 exact aG Tryz.f155 2000 41 (fun _ _ h=>by cases h) (pre:=[]) (args:=[.al [.J x.p,sA x.hd,sL x.bd],.J s])
theorem R7 (hb:Et x.bd) (hF:F.length<1000000):Sp 156 [.al [.J x.p,sA x.hd,sL x.bd],.aO 1155 F.length] [(1155,.ao 1 (F.map .J))] (.aF ((jp x.bd F).map iA) false) [(1155,.ao 1 (F.map .J))]:=by
 have hF':aa (F.map AV.J)=true:=by simp
 have:=bK.gK (R8 x F hb hF) [(100000,1155,.ao 1 (F.map .J))] [(100000,1155)] (args':=[.al [.J x.p,sA x.hd,sL x.bd],.aO 1155 F.length]) (by simp [bW,dB,zn,ae]) (by simp [bg,zn,aM _ _ hF']) rfl
 simpa [bW,dB,kr,ae,jd,bg,aM _ _ hF'] using this
theorem X8 (ts:List Tm) (ks:List ByteArray) (id n:Nat) (hn:n=ks.length) (h1:ts.length<1000000000000) (h2:ks.length<1000000000000000):Sp 11 [gU p ts,.aO id n] [(id,.ao 1 (ks.map .J))] (.J (aW ts ks)) []:=
 bK.fi (ww p ts ks h1 h2) [(id,.ao 1 (ks.map .J))] rfl (by simp [dl]) (by simp [bW,dB,dK,eX,ae,gU,vr]) (by simp [cu,el,dK,eX,ae,hn,gU,vr]) rfl
abbrev su:Nat×AV:=(4,.aA 2004 0 0)
abbrev BE:Nat×AV:=(6,.aA 2006 0 0)
abbrev Ew:Nat×AV:=(10,.aA 2010 0 0)
abbrev Ey:Nat×Ob:=(2006,.an [.J ⟨#[]⟩,.ab,.ab])
abbrev Uk (rs:List Ru) (x:Ru) (nm:ByteArray) (os:List Nat) (a:List ByteArray×List Li×List Ad) (i:Int):St:=⟨[(0,sR rs),su,BE,(8,.aO 1000 a.1.length),(9,.aF (os.map iA) false),Ew,(11,.aO 1002 a.2.2.length),(12,sI i)],[(2004,.an [.J x.p,sA x.hd,sL x.bd]),Ey,(2010,.an [.J nm,sA x.hd,.aO 1001 a.2.1.length]),(1000,.ao 1 (a.1.map .J)),(1001,.ao 16 (a.2.1.map Li.av)),(1002,.ao 2 (a.2.2.map bE))]⟩
def u6 (rs:List Ru) (a:List ByteArray×List Li×List Ad) (y:Li):List ByteArray×List Li×List Ad:=if y.k=1∧ng rs y.p=true then (a.1++ay y.af,a.2.1++[({y with p:=aH y.p (aW y.ts a.1)}:Li)],a.2.2++[(y.p,aW y.ts a.1)]) else (a.1++ay y.af,a.2.1++[y],a.2.2)
attribute [local simp,local grind] u6 in
theorem t97 (os:List Nat) (a:List ByteArray×List Li×List Ad) (i:Nat) (o:Nat) (y:Li) (hi:i<os.length) (hsm:os.length≤1000) (h1:a.1.length<1000000000000) (h2:a.2.1.length<1000000) (h3:a.2.2.length<1000000) (ho:0≤(i:Int)∧(os.map iA)[Int.toNat (i:Int)]? =some (sI o)) (hx:0≤(o:Int)∧(x.bd.map Li.av)[Int.toNat (o:Int)]? =some y.av) (hys:y.af.length<1000000) (hvl:(ay y.af).length<1000000) (hyp:y.p.size<1000000000000000000) (hyt:(aW y.ts a.1).size<1000000000000000000) (k157z:Sp 157 [({y with p:=aH y.p (aW y.ts a.1)}:Li).av] [] (sS (ay y.af)) []) (k11x:Sp 11 [.al [.J y.p,sT y.ts],.aO 1000 a.1.length] [(1000,.ao 1 (a.1.map .J))] (.J (aW y.ts a.1)) []):En 82 (O Tryz.f97 0) ((Uk rs x nm os a (i:Nat))) (fun eo so=>eo= .aj∧so=Uk rs x nm os (u6 rs a y) ((i+1:Nat):Int)):=by
 have o0:=k11x
 have o1:=k157z
 exact au Tryz.f97 2000
theorem jq {n:Int} (h1:0≤n) (h2:n<18446744073709551616):IntKind.wrap .u64 n=n:=by
 simp only [IntKind.wrap,IntKind.bits,IntKind.signed]
 simp
 omega
theorem tB {n:Int} (h1:0≤n) (h2:n<256):IntKind.wrap .u8 n=n:=by
 simp only [IntKind.wrap,IntKind.bits,IntKind.signed]
 simp
 omega
theorem Yc (n:Nat) (acc:ByteArray) (d:UInt8) (h:10≤n) (hn:n<9000000000000000000) (ha:acc.size<1000) (hd:(d.toNat:Int)=48+((n%10:Nat):Int)):EN 23 (O Tryz.f159 0) ⟨[(0,.aP .u64 (n:Nat)),(3,.J acc)],[]⟩ ⟨[(0,.aP .u64 ((n/10:Nat):Int)),(3,.J (⟨#[d]⟩++acc))],[]⟩:=
 ⟨.aj,⟨[(0,.aP .u64 (IntKind.wrap .u64 ((n/10:Nat):Int))),(3,.J (⟨#[d]⟩++acc))],[]⟩,⟨rfl,by rw [jq (by omega) (by omega)]⟩,gA 2000 [.is true,.vw ⟨#[d]⟩] [0,3] [] (by kernel_rfl) (aC7 (show decide ((10:Int)≤(n:Int))=true from decide_eq_true (by omega)) (show (10:Int)≠0 from by decide) (show IntKind.wrap .u64 (48+((n%10:Nat):Int))=48+((n%10:Nat):Int) from jq (by omega) (by omega)) (show IntKind.wrap .u8 (48+((n%10:Nat):Int))=48+((n%10:Nat):Int) from tB (by omega) (by omega)) (show (0:Nat)=0∧1=(ByteArray.mk #[d]).size∧[AV.aP .u8 (48+((n%10:Nat):Int))]=[AV.aP .u8 (d.toNat:Int)] from ⟨rfl,rfl,by rw [hd]⟩) (show (ByteArray.mk #[d]).size+acc.size≤9223372036854775807 from by show 1+acc.size≤_;omega) (show (10:Int)≠0 from by decide))⟩
abbrev BF:Nat×AV:=(0,.aP .u64 (n:Nat))
theorem X7 (acc:ByteArray) (h:n<10):En 23 (O Tryz.f159 0) ⟨[BF n,(3,.J acc)],[]⟩ (fun e t=>e= .ar 0∧t=⟨[BF n,(3,.J acc)],[]⟩):=
 ⟨.ar 0,⟨[BF n,(3,.J acc)],[]⟩,⟨rfl,rfl⟩,gA 2000 [.is false] [0,3] [] (by kernel_rfl) (aC1 (show decide ((10:Int)≤(n:Int))=false from decide_eq_false (by omega)))⟩
theorem X6 (q:Nat) (acc:ByteArray) (d:UInt8) (hq:q<10) (ha:acc.size<1000) (hd:(d.toNat:Int)=48+(q:Int)) (hl:Lo 23 (O Tryz.f159 0) ⟨[BF n,(3,.J ⟨#[]⟩)],[]⟩ (.ar 0) ⟨[(0,.aP .u64 (q:Nat)),(3,.J acc)],[]⟩):En 23 (ai Tryz.f159) ⟨[BF n],[]⟩ (fun e t=>e= .aR∧t=⟨[(2,.J (⟨#[d]⟩++acc))],[]⟩):=
 ⟨.aR,⟨[(2,.J (⟨#[d]⟩++acc))],[]⟩,⟨rfl,rfl⟩,gA 2000 [.g8 [0,3] [],.B3 (.ar 0) [(0,.aP .u64 (q:Nat)),(3,.J acc)] [],.vw ⟨#[d]⟩] [2] [] (by kernel_rfl) (T9 hl (show IntKind.wrap .u64 (48+(q:Int))=48+(q:Int) from jq (by omega) (by omega)) (show IntKind.wrap .u8 (48+(q:Int))=48+(q:Int) from tB (by omega) (by omega)) (show (0:Nat)=0∧1=(ByteArray.mk #[d]).size∧[AV.aP .u8 (48+(q:Int))]=[AV.aP .u8 (d.toNat:Int)] from ⟨rfl,rfl,by rw [hd]⟩) (show (ByteArray.mk #[d]).size+acc.size≤9223372036854775807 from by show 1+acc.size≤_;omega))⟩
theorem Sa:∀(m n:Nat) (acc:List UInt8),n<10^(m+1)→m≤17→acc.length+m<900→∃(q:Nat) (acc':List UInt8),q<10∧acc'.length<950∧Lo 23 (O Tryz.f159 0) ⟨[BF n,(3,.J ⟨acc.toArray⟩)],[]⟩ (.ar 0) ⟨[(0,.aP .u64 (q:Nat)),(3,.J ⟨acc'.toArray⟩)],[]⟩∧Lib.decDigits n++acc=UInt8.ofNat (48+q)::acc'
 |m,n,acc,h1,h2,h3=>by
  by_cases h:n<10
  ·obtain ⟨e,t,⟨rfl,rfl⟩,r⟩:=X7 n ⟨acc.toArray⟩ h
   exact ⟨n,acc,h,by omega,.bD r (by simp),by rw [Lib.decDigits_one h];rfl⟩
  ·match m,h1,h2,h3 with
   |0,h1,_,_=>exact absurd (by simpa using h1) h
   |m+1,h1,h2,h3=>
    have hp:(10:Nat)^(m+1+1)≤10^18:=Nat.pow_le_pow_right (by decide) (by omega)
    have hd:=uZ (n%10) (by omega)
    obtain ⟨e,t,⟨rfl,rfl⟩,r⟩:=Yc n ⟨acc.toArray⟩ (UInt8.ofNat (48+n%10)) (by omega) (by omega) (by show acc.toArray.size<1000;simp;omega) hd
    have e1:(ByteArray.mk #[UInt8.ofNat (48+n%10)]++⟨acc.toArray⟩:ByteArray)=⟨(UInt8.ofNat (48+n%10)::acc).toArray⟩:=by
     rw [qO];simp
    rw [e1] at r
    obtain ⟨q,acc',g1,g2,g3,g4⟩:=Sa m (n/10) (UInt8.ofNat (48+n%10)::acc) (by rw [Nat.pow_succ] at h1;omega) (by omega) (by simp;omega)
    refine ⟨q,acc',g1,g2,.cR r g3,?_⟩
    rw [←g4,Lib.decDigits,dif_neg h,List.append_assoc]
    rfl
theorem R9 (h:n<1000000000000000000):Sp 159 [.aP .u64 (n:Nat)] [] (.J ⟨(Lib.decDigits n).toArray⟩) []:=by
 obtain ⟨q,acc',g1,g2,g3,g4⟩:=Sa 17 n [] (by simpa using h) (by omega) (by simp)
 obtain ⟨_,_,⟨rfl,rfl⟩,r⟩:=X6 n q ⟨acc'.toArray⟩ (UInt8.ofNat (48+q)) g1 (by show acc'.toArray.size<1000;simp;omega) (uZ q g1) g3
 have e1:(ByteArray.mk #[UInt8.ofNat (48+q)]++⟨acc'.toArray⟩:ByteArray)=⟨(Lib.decDigits n).toArray⟩:=by
  rw [qO,←List.append_nil (Lib.decDigits n),g4];simp
 rw [e1] at r
 exact sP Tryz.f159 (by simp [aa,aJ]) r (.inr rfl)
theorem X5 (h:n<1000000000000000000):En 13 (ai Tryz.f104) ⟨[(0,sI n)],[]⟩ (fun e t=>e= .aR∧t=⟨[(2,.J ⟨(Lib.decDigits n).toArray⟩)],[]⟩):=
 ⟨.aR,⟨[(2,.J ⟨(Lib.decDigits n).toArray⟩)],[]⟩,⟨rfl,rfl⟩,gA 2000 [.is false,.dO (.J ⟨(Lib.decDigits n).toArray⟩) [] []] [2] [] (by kernel_rfl) (Oa (show decide ((n:Int)<0)=false from decide_eq_false (by omega)) (show IntKind.wrap .u64 (n:Int)=(n:Int) from jq (by omega) (by omega)) (R9 n h))⟩
theorem J3 (h:n<1000000000000000000):Sp 104 [sI n] [] (.J ⟨(Lib.itoa (n:Int)).toArray⟩) []:=by
 obtain ⟨_,_,⟨rfl,rfl⟩,r⟩:=X5 n h
 have e:Lib.itoa (n:Int)=Lib.decDigits n:=by unfold Lib.itoa;rw [if_neg (by omega),Int.toNat_natCast]
 rw [e]
 exact sP Tryz.f104 (by simp [aa,aJ]) r (.inr rfl)
def iT (rs:List Ru) (bd:List Li) (a:List ByteArray×List Li×List Ad) (o:Nat):List ByteArray×List Li×List Ad:=match bd[o]? with
 |some y=>u6 rs a y
 |none=>a
def gZ (rs:List Ru) (x:Ru) (s:ByteArray):List ByteArray×List Li×List Ad:=(jp x.bd (dV s x.hd)).foldl (iT rs x.bd) (dV s x.hd,[],[])
theorem wW (bd:List Li):∀(n:Nat) (tk:List Bool) (F:List ByteArray) (o:Nat),o∈gY bd n tk F→o<bd.length
 |0,_,_,o,h=>by cases h
 |n+1,tk,F,o,h=>by
  unfold gY at h
  cases hn:jN (bd.zip tk) F with
  |none=>rw [hn] at h;cases h
  |some i=>
   rw [hn] at h
   rcases List.mem_cons.1 h with h|h
   ·subst h
    obtain ⟨y,h1,_⟩:=iR hn
    exact (List.getElem?_eq_some_iff.1 h1).1
   ·exact wW bd n _ _ o h
theorem rA (bd:List Li):∀(n:Nat) (tk:List Bool) (F:List ByteArray),(gY bd n tk F).length≤n
 |0,_,_=>by simp [gY]
 |n+1,tk,F=>by
  unfold gY
  split
  ·simp
  ·rename_i i _
   have:=rA bd n (tk.set i true) (F++ay ((bd[i]?.map Li.af).getD []))
   simp only [List.length_cons];omega
theorem Ya (os:List Nat) (F:List ByteArray) (hb:Et x.bd) (hp:∀y,y∈x.bd→y.p.size<1000000000000000000) (ho:∀o,o∈os→o<x.bd.length) (hol:os.length≤1000) (hF:F.length<1000000):
  Lo 82 (O Tryz.f97 0) (Uk rs x nm os (F,[],[]) 0) (.ar 0) ⟨[BE,Ew,(11,.aO 1002 (os.foldl (iT rs x.bd) (F,[],[])).2.2.length)],[Ey,(2010,.an [.J nm,sA x.hd,.aO 1001 (os.foldl (iT rs x.bd) (F,[],[])).2.1.length]),(1001,.ao 16 ((os.foldl (iT rs x.bd) (F,[],[])).2.1.map Li.av)),(1002,.ao 2 ((os.foldl (iT rs x.bd) (F,[],[])).2.2.map bE))]⟩:=
 (be (l:=os) (fun i a=>Uk rs x nm os a (i:Nat)) (fun a=>⟨[BE,Ew,(11,.aO 1002 a.2.2.length)],[Ey,(2010,.an [.J nm,sA x.hd,.aO 1001 a.2.1.length]),(1001,.ao 16 (a.2.1.map Li.av)),(1002,.ao 2 (a.2.2.map bE))]⟩) (iT rs x.bd) (fun i a=>a.1.length<1000000+i*1000000∧a.2.1.length≤i∧a.2.2.length≤i) (fun i a hi hI=>by
  have h1:os[i]? =some os[i]:=List.getElem?_eq_getElem hi
  have h2:=ho _ (List.mem_of_getElem? h1)
  have h3:x.bd[os[i]]? =some x.bd[os[i]]:=List.getElem?_eq_getElem h2
  have hy:=hb.2 _ (List.mem_of_getElem? h3)
  have hv:=bU x.bd[os[i]].af
  have hpt:=dq x.bd[os[i]].ts a.1
  obtain ⟨e,t,⟨rfl,rfl⟩,r⟩:=t97 rs x nm os a i os[i] x.bd[os[i]] hi hol (by omega) (by omega) (by omega) ⟨by omega,by rw [Int.toNat_natCast,List.getElem?_map,h1];rfl⟩ (jC h3) hy.2.2 (by omega) (hp _ (List.mem_of_getElem? h3)) (by omega) (tm ({x.bd[os[i]] with p:=aH x.bd[os[i]].p (aW x.bd[os[i]].ts a.1)}:Li) (by have:=hy.2.2;show x.bd[os[i]].af.length<_;omega)) (X8 _ _ _ 1000 a.1.length rfl (by omega) (by omega))
  exact ⟨_,_,⟨rfl,os[i],h1,by simp only [iT,h3]⟩,r⟩) (fun i a o hy hI=>by
  have h2:=ho _ (List.mem_of_getElem? hy)
  have h3:x.bd[o]? =some x.bd[o]:=List.getElem?_eq_getElem h2
  have hy:=hb.2 _ (List.mem_of_getElem? h3)
  have hv:=bU x.bd[o].af
  simp only [iT,h3,u6]
  split<;>simp only [List.length_append,List.length_singleton]<;>omega) (fun a hI=>au Tryz.f97 2000) (F,[],[]) ⟨by simp;omega,by simp,by simp⟩).1
theorem b97 (hp:p.size<1000000000000000000) (hs:s.size<1000000000000000000) (F:List ByteArray) (os:List Nat) (B:List Li) (A:List Ad) (k155x:Sp 155 [.al [.J x.p,sA x.hd,sL x.bd],.J s] [] (.aO 1155 F.length) [(1155,.ao 1 (F.map .J))]) (R8:Sp 156 [.al [.J x.p,sA x.hd,sL x.bd],.aO 1155 F.length] [(1155,.ao 1 (F.map .J))] (.aF (os.map iA) false) [(1155,.ao 1 (F.map .J))]) (l97_0q:Lo 82 (O Tryz.f97 0) ⟨[(0,sR rs),su,BE,(8,.aO 1155 F.length),(9,.aF (os.map iA) false),Ew,(11,.ab),(12,sI 0)],[(2004,.an [.J x.p,sA x.hd,sL x.bd]),Ey,(1155,.ao 1 (F.map .J)),(2010,.an [.J (aH p s),sA x.hd,.ab])]⟩ (.ar 0) ⟨[BE,Ew,(11,.aO 1002 A.length)],[Ey,(2010,.an [.J (aH p s),sA x.hd,.aO 1001 B.length]),(1001,.ao 16 (B.map Li.av)),(1002,.ao 2 (A.map bE))]⟩):En 82 (ai Tryz.f97) (⟨[(0,sR rs),(1,.al [.J x.p,sA x.hd,sL x.bd]),(2,.al [.J p,.J s])],[]⟩) (fun eo so=>eo= .aR∧so=⟨[BE,(7,.aF (A.map bE) false)],[(2006,.an [.J (aH p s),sA x.hd,sL B])]⟩):=by
 have o0:=k155x
 have o1:=R8
 have o2:=l97_0q
 exact au Tryz.f97 2000
theorem X9 (hp:p.size<1000000000000000000) (hs:s.size<1000000000000000000) (hb:Et x.bd) (hpp:∀y,y∈x.bd→y.p.size<1000000000000000000) (hh:x.hd.length≤s.size) (hk:x.hd.length<1000000):Sp 97 [sR rs,.al [.J x.p,sA x.hd,sL x.bd],.al [.J p,.J s]] [] (.bC [.al [.J (aH p s),sA x.hd,.aF ((gZ rs x s).2.1.map Li.av) false],.aF ((gZ rs x s).2.2.map bE) false]) []:=by
 have hF:(dV s x.hd).length≤x.hd.length:=by
  have go:∀(l:List Ar) (a:Nat×List ByteArray),(l.foldl (ew s) a).2.length≤a.2.length+l.length:=by
   intro l
   induction l with
   |nil=>intro a;simp
   |cons y r ih=>
    intro a
    rw [List.foldl_cons,List.length_cons]
    have:=ih (ew s a y)
    have h2:(ew s a y).2.length≤a.2.length+1:=by unfold ew;simp only;split<;>simp
    omega
  have:=go x.hd (0,[])
  simpa [dV] using this
 have h1:=Ya rs x (aH p s) (jp x.bd (dV s x.hd)) (dV s x.hd) hb hpp (fun o ho=>wW _ _ _ _ o ho) (by have:=rA x.bd x.bd.length (List.replicate x.bd.length false) (dV s x.hd);have:=hb.1;unfold jp;omega) (by omega)
 have h2:=(h1.ez (b5 (env:=[(0,sR rs),(4,.aA 2004 0 0),(6,.aA 2006 0 0),(8,.aO 1000 (dV s x.hd).length),(9,.aF ((jp x.bd (dV s x.hd)).map iA) false),(10,.aA 2010 0 0),(11,.ab),(12,sI 0)]) (hp:=[(2004,.an [.J x.p,sA x.hd,sL x.bd]),(2006,.an [.J ⟨#[]⟩,.ab,.ab]),(2010,.an [.J (aH p s),sA x.hd,.aO 1001 0]),(1000,.ao 1 ((dV s x.hd).map .J)),(1001,.ao 16 [])]) 11 1002 2 rfl rfl)).ez (eS (env:=[(0,sR rs),(4,.aA 2004 0 0),(6,.aA 2006 0 0),(8,.aO 1000 (dV s x.hd).length),(9,.aF ((jp x.bd (dV s x.hd)).map iA) false),(10,.aA 2010 0 0),(11,.ab),(12,sI 0)]) (hp:=[(2004,.an [.J x.p,sA x.hd,sL x.bd]),(2006,.an [.J ⟨#[]⟩,.ab,.ab]),(2010,.an [.J (aH p s),sA x.hd,.ab]),(1000,.ao 1 ((dV s x.hd).map .J))]) (cs:=[.J (aH p s),sA x.hd,.ab]) 2010 2 1001 16 rfl rfl rfl)
 have h3:=bJ.a6 (st:=⟨[(0,sR rs),(4,.aA 2004 0 0),(6,.aA 2006 0 0),(8,.aO 1155 (dV s x.hd).length),(9,.aF ((jp x.bd (dV s x.hd)).map iA) false),(10,.aA 2010 0 0),(11,.ab),(12,sI 0)],[(2004,.an [.J x.p,sA x.hd,sL x.bd]),(2006,.an [.J ⟨#[]⟩,.ab,.ab]),(1155,.ao 1 ((dV s x.hd).map .J)),(2010,.an [.J (aH p s),sA x.hd,.ab])]⟩) [0,4,6,8,9,10,11,12] [K0 2004,K0 2006,K0 2010,(1155,.a6 1000 true)] h2 (cs:=[aa ((dV s x.hd).map AV.J)=true]) rfl ⟨by simp,trivial⟩
 obtain ⟨_,_,⟨rfl,rfl⟩,r⟩:=b97 rs x p s hp hs (dV s x.hd) (jp x.bd (dV s x.hd)) (gZ rs x s).2.1 (gZ rs x s).2.2 (R6 x s hh (by omega)) (R7 x (dV s x.hd) hb (by omega)) h3
 exact sP Tryz.f97 (by simp [aa,aJ]) r (.inr rfl)
abbrev Ez:Nat×AV:=(1,.aA 2001 0 0)
abbrev uY:Nat×AV:=(2,.aA 2002 0 0)
abbrev wU:Nat×AV:=(3,.aA 2003 0 0)
abbrev EA:Nat×Ob:=(2001,.an [.J p,.J s])
abbrev yI:Nat×Ob:=(2002,.an [.J ⟨#[]⟩,.ab,.ab])
abbrev R5 (p s nm:ByteArray) (i:Nat):St:=⟨[Ez,uY,wU,su,(5,sI i)],[EA p s,yI,(2003,.an [.J nm,.aO 1000 (hV i).length,.ab]),(2004,.an [.J p,.aO 1001 (tV i).length]),(1000,.ao 5 ((hV i).map Ar.av)),(1001,.ao 4 ((tV i).map Tm.av))]⟩
theorem t99 (i:Nat) (hi:(i:Int)<s.size) (hs:s.size≤24) (h1:(hV i).length=i) (h2:(tV i).length=i) (hz:(ByteArray.mk (Lib.itoa (i:Nat)).toArray).size<1000) (k158x:Sp 158 [sI i] [] (.J ⟨(Lib.itoa (i:Nat)).toArray⟩) []):En 42 (O Tryz.f99 0) ((R5 p s nm i)) (fun eo so=>eo= .aj∧so=R5 p s nm (i+1)):=by
 exact zs 2000<|zt (show decide ((i:Int)<(↑(ByteArray.size s):Int))=true from decide_eq_true (by omega))<|zc k158x<|zh (show 1+ByteArray.size (ByteArray.mk (List.toArray (Lib.itoa (i:Int))))≤9223372036854775807 from by omega)<|zh (rZ 5 56 [.al [sJ 0,.J (ByteArray.mk #[86]++ByteArray.mk (List.toArray (Lib.itoa (i:Int)))),sJ 0,sI 0,.J (ByteArray.mk #[])]] (List.length (List.map (fun (i:Nat)=>Ar.mk 0 (vT i)) (List.range i))) (List.map Ar.av (List.map (fun (i:Nat)=>Ar.mk 0 (vT i)) (List.range i))))<|zh (rZ 4 48 [.al [.J (ByteArray.mk #[86]++ByteArray.mk (List.toArray (Lib.itoa (i:Int)))),sJ 0,sI 0,.J (ByteArray.mk #[])]] (List.length (List.map vT (List.range i))) (List.map Tm.av (List.map vT (List.range i))))<|zh (w1 i (by omega))<|zt rT<|zt rT<|zh (show aa (List.map Ar.av (List.map (fun (i:Nat)=>Ar.mk 0 (vT i)) (List.range i))++[AV.al [sJ 0,AV.J (ByteArray.mk #[86]++ByteArray.mk (List.toArray (Lib.itoa (i:Int)))),sJ 0,sI 0,AV.J (ByteArray.mk #[])]])=true from by (refine a8.2 fun z hz=> ?_;rcases List.mem_append.1 hz with h9|h9<;>first|(obtain ⟨q,_,rfl⟩:=List.mem_map.1 h9;rfl)|(rw [List.mem_singleton] at h9;subst h9;rfl)))<|zh (show aa (List.map Tm.av (List.map vT (List.range i))++[AV.al [AV.J (ByteArray.mk #[86]++ByteArray.mk (List.toArray (Lib.itoa (i:Int)))),sJ 0,sI 0,AV.J (ByteArray.mk #[])]])=true from by (refine a8.2 fun z hz=> ?_;rcases List.mem_append.1 hz with h9|h9<;>first|(obtain ⟨q,_,rfl⟩:=List.mem_map.1 h9;rfl)|(rw [List.mem_singleton] at h9;subst h9;rfl)))<|zq (s:=St.mk [Ez,uY,wU,su,(5,sI ((i:Int)+1))] [EA p s,(2002,.an [.J (ByteArray.mk #[]),.ab,.ab]),(2003,.an [.J nm,.aO 1000 (List.length (List.map (fun (i:Nat)=>Ar.mk 0 (vT i)) (List.range i))+List.length [AV.al [sJ 0,.J (ByteArray.mk #[86]++ByteArray.mk (List.toArray (Lib.itoa (i:Int)))),sJ 0,sI 0,.J (ByteArray.mk #[])]]),.ab]),(2004,.an [.J p,.aO 1001 (List.length (List.map vT (List.range i))+List.length [AV.al [.J (ByteArray.mk #[86]++ByteArray.mk (List.toArray (Lib.itoa (i:Int)))),sJ 0,sI 0,.J (ByteArray.mk #[])]])]),(1000,.ao 5 (List.map Ar.av (List.map (fun (i:Nat)=>Ar.mk 0 (vT i)) (List.range i))++[.al [sJ 0,.J (ByteArray.mk #[86]++ByteArray.mk (List.toArray (Lib.itoa (i:Int)))),sJ 0,sI 0,.J (ByteArray.mk #[])]])),(1001,.ao 4 (List.map Tm.av (List.map vT (List.range i))++[.al [.J (ByteArray.mk #[86]++ByteArray.mk (List.toArray (Lib.itoa (i:Int)))),sJ 0,sI 0,.J (ByteArray.mk #[])]]))]) ⟨rfl,by simp only [R5,Ae,Af,List.map_append,List.length_append];rfl⟩ (tb:=[K1 2001,K1 2002,K0 2003,K0 2004,(2029,.a6 1000 true),(2035,.a6 1001 true)])
theorem e99 (hs:s.size≤24):En 42 (O Tryz.f99 0) ((R5 p s nm s.size)) (fun eo so=>eo= .ar 0∧so=⟨[uY,wU,su],[yI,(2003,.an [.J nm,sA (hV s.size),.ab]),(2004,.an [.J p,sT (tV s.size)])]⟩):=au Tryz.f99 2000
abbrev R4:Nat×Ob:=(2003,.an [.J (aH p s),.ab,.ab])
abbrev MP:Nat×Ob:=(2004,.an [.J p,.ab])
theorem b99 (hp:p.size<1000000000000000000) (hs:s.size<1000000000000000000) (l99_0q:Lo 42 (O Tryz.f99 0) ⟨[Ez,uY,wU,su,(5,sI 0)],[EA p s,yI,R4 p s,MP p]⟩ (.ar 0) ⟨[uY,wU,su],[yI,(2003,.an [.J (aH p s),sA (hV s.size),.ab]),(2004,.an [.J p,sT (tV s.size)])]⟩):En 42 (ai Tryz.f99) (⟨[(0,.al [.J p,.J s])],[]⟩) (fun eo so=>eo= .aR∧so=⟨[uY],[(2002,.an [.J (aH p s),sA (hV s.size),.aF [.al [sJ 1,.J p,sT (tV s.size),sJ 0,sJ 0,.J ⟨#[]⟩,sJ 0,sI 0,.J ⟨#[]⟩,.ab,sJ 0,.J ⟨#[]⟩,sJ 0,sI 0,.J ⟨#[]⟩,.ab]] false])]⟩):=by
 have o0:=l99_0q
 exact au Tryz.f99 2000
theorem X' (hp:p.size<1000000000000000000) (hs:s.size≤24):Sp 99 [.al [.J p,.J s]] [] (ru (p,s)).av []:=by
 have go:∀(d i:Nat),i+d=s.size→Lo 42 (O Tryz.f99 0) (R5 p s (aH p s) i) (.ar 0) ⟨[uY,wU,su],[yI,(2003,.an [.J (aH p s),sA (hV s.size),.ab]),(2004,.an [.J p,sT (tV s.size)])]⟩:=by
  intro d
  induction d with
  |zero=>
   intro i hi
   have:i=s.size:=by omega
   subst this
   obtain ⟨e,t,⟨rfl,rfl⟩,r⟩:=e99 p s (aH p s) hs
   exact .bD r (by simp)
  |succ d ih=>
   intro i hi
   have hz:=rt i (by omega)
   obtain ⟨e,t,⟨rfl,rfl⟩,r⟩:=t99 p s (aH p s) i (by omega) hs (kL i) (my i) (by show (Lib.itoa (i:Int)).toArray.size<1000;simpa using hz) (Sb i (by omega))
   exact .cR r (ih (i+1) (by omega))
 have h1:=go s.size 0 (by omega)
 have h2:=((h1.ez (eS (env:=[Ez,uY,wU,su,(5,sI 0)]) (hp:=[EA p s,yI,(2003,.an [.J (aH p s),.aO 1000 0,.ab]),MP p,(1000,.ao 5 [])]) (cs:=[.J p,.ab]) 2004 1 1001 4 rfl rfl rfl))).ez (eS (env:=[Ez,uY,wU,su,(5,sI 0)]) (hp:=[EA p s,yI,R4 p s,MP p]) (cs:=[.J (aH p s),.ab,.ab]) 2003 1 1000 5 rfl rfl rfl)
 obtain ⟨_,_,⟨rfl,rfl⟩,r⟩:=b99 p s hp (by omega) h2
 exact bK.vS (bK.jb (fn:=Tryz.f99) (c:=ai Tryz.f99) (by kernel_rfl) (by kernel_rfl) (by simp [aa,aJ]) r (.inr rfl) (by kernel_rfl) (by simp [aa,aJ])) (uF.al (.bz (.bb _) (.bz (.bb _) (.bz (Ej (jj p (tV s.size))) .iV))))
@[reducible,instance] def aaJ (p s:ByteArray):=kG (X' p s)
end
end Go.Ped
