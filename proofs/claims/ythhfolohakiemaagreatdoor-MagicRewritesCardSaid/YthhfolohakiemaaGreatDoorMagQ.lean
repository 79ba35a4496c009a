/- What the functions of the packages check, depend and adorn answer, and their counterparts in the document, is proved for every input. -/
import Derived.Test.YthhfolohakiemaaGreatDoorMagI
import Derived.Test.YthhfolohakiemaaGreatDoorMagK
import Derived.Test.YthhfolohakiemaaGreatDoorMagP
set_option linter.all false
set_option maxRecDepth 20000
set_option maxHeartbeats 800000
namespace Go.Ped
open Go.RowKit Go.Proofs
section
variable (lf n dp:Int) (es:List Ex)
inductive uT:Ex→Prop where
 |mk (o:Int) (t:Tm) (ks:List Ex) (h:ks.length<1759218604391) (hk:∀k,k∈ks→uT k):uT (.mk o t ks)
theorem uT.XX {x:Ex} (h:uT x):x.ax.length<1759218604391:=by cases h;assumption
theorem uT.pB {x:Ex} (h:uT x):x.ax.length<10000000000000:=by have:=h.XX;omega
theorem uT.kid {x:Ex} (h:uT x):∀k,k∈x.ax→uT k:=by cases h;assumption
theorem MH (l:List Ex):∀e,e∈l.map Ex.av→c8 6 e:=fun e he=>by
 obtain ⟨x,_,rfl⟩:=List.mem_map.1 he
 simp
abbrev du:Nat×Ob:=(312,.aw 6 (es.map Ex.av))
theorem MJ (lf n dp:Int) (es:List Ex) (hes:es.length≤1048577) (i k:Nat) (x:Ex) (hi:i<es.length) (hx:(es.map Ex.av)[0+Int.toNat (i:Int)]? =some (.al x.ac)) (y:Ex) (hk:k<x.ax.length) (hkl:x.ax.length<10000000000000) (hy:0≤(k:Int)∧(x.ax.map Ex.av)[Int.toNat (k:Int)]? =some (.al y.ac)):EN 75 (O Tryz.f120 2) ⟨[(1,sI lf),(5,sI n),(6,.aw 312 0 (es.map Ex.av).length),(7,sI dp),(8,.ab),(9,sI (i:Int)),(10,sI (k:Int))],[du es]⟩ ⟨[(1,sI lf),(5,sI n),(6,.aw 312 0 (es.map Ex.av).length),(7,sI dp),(8,.aw 372 0 1),(9,sI (i:Int)),(10,sI ((k+1:Nat):Int))],[du es,(372,.aw 6 [.al y.ac])]⟩:=au Tryz.f120 0
theorem MB (hes:es.length≤1048577) (i:Nat) (x:Ex) (hi:i<es.length) (hx:(es.map Ex.av)[0+Int.toNat (i:Int)]? =some (.al x.ac)):En 75 (O Tryz.f120 2) ⟨[(1,sI lf),(5,sI n),(6,.aw 312 0 (es.map Ex.av).length),(7,sI dp),(8,.ab),(9,sI (i:Int)),(10,sI ((x.ax.length:Nat):Int))],[du es]⟩ (fun e t=>e= .ar 4∧t=⟨[(1,sI lf),(5,sI n),(6,.aw 312 0 (es.map Ex.av).length),(7,sI dp),(8,.ab),(9,sI (i:Int))],[du es]⟩):=au Tryz.f120 0
abbrev XY (nx:List Ex):Nat×Ob:=(372,.aw 6 (nx.map Ex.av))
abbrev uV (nx:List Ex):List (Nat×Ob):=[du es,XY nx]
theorem MI (lf n dp:Int) (es:List Ex) (hes:es.length≤1048577) (nx:List Ex) (hnl:nx.length≤1048577) (hok:∀e,e∈nx.map Ex.av→c8 6 e) (i k:Nat) (x:Ex) (hi:i<es.length) (hx:(es.map Ex.av)[0+Int.toNat (i:Int)]? =some (.al x.ac)) (y:Ex) (hk:k<x.ax.length) (hkl:x.ax.length<10000000000000) (hy:0≤(k:Int)∧(x.ax.map Ex.av)[Int.toNat (k:Int)]? =some (.al y.ac)):EN 75 (O Tryz.f120 2) ⟨[(1,sI lf),(5,sI n),(6,.aw 312 0 (es.map Ex.av).length),(7,sI dp),(8,.aw 372 0 (nx.map Ex.av).length),(9,sI (i:Int)),(10,sI (k:Int))],(uV es nx)⟩ ⟨[(1,sI lf),(5,sI n),(6,.aw 312 0 (es.map Ex.av).length),(7,sI dp),(8,.aw 372 0 ((nx.map Ex.av).length+1)),(9,sI (i:Int)),(10,sI ((k+1:Nat):Int))],[du es,(372,.aw 6 (nx.map Ex.av++[.al y.ac]))]⟩:=au Tryz.f120 0
theorem MA (hes:es.length≤1048577) (nx:List Ex) (i:Nat) (x:Ex) (hi:i<es.length) (hx:(es.map Ex.av)[0+Int.toNat (i:Int)]? =some (.al x.ac)):En 75 (O Tryz.f120 2) ⟨[(1,sI lf),(5,sI n),(6,.aw 312 0 (es.map Ex.av).length),(7,sI dp),(8,.aw 372 0 (nx.map Ex.av).length),(9,sI (i:Int)),(10,sI ((x.ax.length:Nat):Int))],(uV es nx)⟩ (fun e t=>e= .ar 4∧t=⟨[(1,sI lf),(5,sI n),(6,.aw 312 0 (es.map Ex.av).length),(7,sI dp),(8,.aw 372 0 (nx.map Ex.av).length),(9,sI (i:Int))],(uV es nx)⟩):=au Tryz.f120 0
def nV:List Ex→AV
 |[]=> .ab
 |x::r=> .aw 372 0 ((x::r).map Ex.av).length
def nP:List Ex→List (Nat×Ob)
 |[]=>[]
 |x::r=>[(372,.aw 6 ((x::r).map Ex.av))]
theorem Ep (hes:es.length≤1048577) (nx:List Ex) (i:Nat) (x:Ex) (hi:i<es.length) (hx:(es.map Ex.av)[0+Int.toNat (i:Int)]? =some (.al x.ac)) (hkl:nx.length+x.ax.length≤1048577):Lo 75 (O Tryz.f120 2) ⟨[(1,sI lf),(5,sI n),(6,.aw 312 0 (es.map Ex.av).length),(7,sI dp),(8,nV nx),(9,sI (i:Int)),(10,sI 0)],du es::nP nx⟩ (.ar 4) ⟨[(1,sI lf),(5,sI n),(6,.aw 312 0 (es.map Ex.av).length),(7,sI dp),(8,nV (nx++x.ax)),(9,sI (i:Int))],du es::nP (nx++x.ax)⟩:=by
 have h:=bJ.rX (P:=Tryz.prog) (n:=75) (c:=O Tryz.f120 2) (e:= .ar 4) (st':=⟨[(1,sI lf),(5,sI n),(6,.aw 312 0 (es.map Ex.av).length),(7,sI dp),(8,nV (nx++x.ax)),(9,sI (i:Int))],du es::nP (nx++x.ax)⟩) (st:=fun k=>⟨[(1,sI lf),(5,sI n),(6,.aw 312 0 (es.map Ex.av).length),(7,sI dp),(8,nV (nx++x.ax.take k)),(9,sI (i:Int)),(10,sI (k:Int))],du es::nP (nx++x.ax.take k)⟩) (N:=x.ax.length) ?_ ?_
 ·simpa using h
 ·intro k hk
  have hy:x.ax[k]? =some x.ax[k]:=List.getElem?_eq_getElem hk
  have htk:x.ax.take (k+1)=x.ax.take k++[x.ax[k]]:=List.take_succ_eq_append_getElem hk
  show Rz 75 (O Tryz.f120 2) ⟨[(1,sI lf),(5,sI n),(6,.aw 312 0 (es.map Ex.av).length),(7,sI dp),(8,nV (nx++x.ax.take k)),(9,sI (i:Int)),(10,sI (k:Int))],du es::nP (nx++x.ax.take k)⟩ .aj ⟨[(1,sI lf),(5,sI n),(6,.aw 312 0 (es.map Ex.av).length),(7,sI dp),(8,nV (nx++x.ax.take (k+1))),(9,sI (i:Int)),(10,sI ((k+1:Nat):Int))],du es::nP (nx++x.ax.take (k+1))⟩
  rw [htk,←List.append_assoc]
  generalize x.ax[k]=y at hy
  have hy':0≤(k:Int)∧(x.ax.map Ex.av)[Int.toNat (k:Int)]? =some (.al y.ac):=⟨by omega,by rw [Int.toNat_natCast,List.getElem?_map,hy,Option.map_some,Ex.de]⟩
  have hl:(nx++x.ax.take k).length≤1048577:=by rw [List.length_append,List.length_take];omega
  generalize nx++x.ax.take k=m at hl
  cases m with
  |nil=>
   obtain ⟨e,t,⟨rfl,rfl⟩,h⟩:=MJ lf n dp es hes i k x hi hx y hk (by omega) hy'
   rw [←Ex.de] at h
   exact h
  |cons a r=>
   obtain ⟨e,t,⟨rfl,rfl⟩,h⟩:=MI lf n dp es hes (a::r) hl (MH _) i k x hi hx y hk (by omega) hy'
   rw [←Ex.de,show ((a::r).map Ex.av).length+1=(((a::r)++[y]).map Ex.av).length from by simp,show (a::r).map Ex.av++[y.av]=((a::r)++[y]).map Ex.av from by simp] at h
   exact h
 ·rw [List.take_length]
  generalize nx++x.ax=m
  cases m with
  |nil=>
   obtain ⟨e,t,⟨rfl,rfl⟩,h⟩:=MB lf n dp es hes i x hi hx
   exact .bD h (by simp)
  |cons a r=>
   obtain ⟨e,t,⟨rfl,rfl⟩,h⟩:=MA lf n dp es hes (a::r) i x hi hx
   exact .bD h (by simp)
theorem HY (hes:es.length≤1048577) (hn:0≤n∧n≤1048577) (hlf:0≤lf∧lf≤1048577) (i:Nat) (x:Ex) (hi:i<es.length) (hx:(es.map Ex.av)[0+Int.toNat (i:Int)]? =some (.al x.ac)) (hkl:(x.ax.map Ex.av).length<10000000000000) (hc:decide (lf<n+0+((x.ax.map Ex.av).length:Nat))=false) (l120_2q:Lo 75 (O Tryz.f120 2) ⟨[(1,sI lf),(5,sI n),(6,.aw 312 0 (es.map Ex.av).length),(7,sI dp),(8,.ab),(9,sI (i:Int)),(10,sI 0)],[du es]⟩ (.ar 4) ⟨[(1,sI lf),(5,sI n),(6,.aw 312 0 (es.map Ex.av).length),(7,sI dp),(8,.ab),(9,sI (i:Int))],[du es]⟩):EN 75 (O Tryz.f120 1) ⟨[(1,sI lf),(5,sI n),(6,.aw 312 0 (es.map Ex.av).length),(7,sI dp),(8,.ab),(9,sI (i:Int))],[du es]⟩ ⟨[(1,sI lf),(5,sI n),(6,.aw 312 0 (es.map Ex.av).length),(7,sI dp),(8,.ab),(9,sI ((i+1:Nat):Int))],[du es]⟩:=by
 exact z0<|zt (d1 Ex.av es i (by omega))<|zh (show IntKind.wrap .i64 (n+0)=n+0 from bA (by omega) (by omega))<|zh (show 0≤(i:Int)∧(i:Int)<(↑(es.map Ex.av).length:Int) from by simp;omega)<|ze hx<|zh (show IntKind.wrap .i64 (n+0+(↑(List.length (x.ax.map Ex.av)):Int))=n+0+(↑(List.length (x.ax.map Ex.av)):Int) from bA (by omega) (by omega))<|zf hc<|zh (zN (es.map Ex.av))<|zd (.g8 [1,5,6,7,8,9,10] [K1 312])<|zl l120_2q<|zh (w1 i (by omega))<|zh (zN (es.map Ex.av))<|zq ⟨rfl,rfl⟩
abbrev HV (nx2:List Ex):Nat×Ob:=(372,.aw 6 (nx2.map Ex.av))
theorem HX (hes:es.length≤1048577) (nx2:List Ex) (hn:0≤n∧n≤1048577) (hlf:0≤lf∧lf≤1048577) (i:Nat) (x:Ex) (hi:i<es.length) (hx:(es.map Ex.av)[0+Int.toNat (i:Int)]? =some (.al x.ac)) (hkl:(x.ax.map Ex.av).length<10000000000000) (hc:decide (lf<n+0+((x.ax.map Ex.av).length:Nat))=false) (l120_2q:Lo 75 (O Tryz.f120 2) ⟨[(1,sI lf),(5,sI n),(6,.aw 312 0 (es.map Ex.av).length),(7,sI dp),(8,.ab),(9,sI (i:Int)),(10,sI 0)],[du es]⟩ (.ar 4) ⟨[(1,sI lf),(5,sI n),(6,.aw 312 0 (es.map Ex.av).length),(7,sI dp),(8,.aw 372 0 (nx2.map Ex.av).length),(9,sI (i:Int))],[du es,HV nx2]⟩):EN 75 (O Tryz.f120 1) ⟨[(1,sI lf),(5,sI n),(6,.aw 312 0 (es.map Ex.av).length),(7,sI dp),(8,.ab),(9,sI (i:Int))],[du es]⟩ ⟨[(1,sI lf),(5,sI n),(6,.aw 312 0 (es.map Ex.av).length),(7,sI dp),(8,.aw 372 0 (nx2.map Ex.av).length),(9,sI ((i+1:Nat):Int))],[du es,HV nx2]⟩:=by
 exact z0<|zt (d1 Ex.av es i (by omega))<|zh (show IntKind.wrap .i64 (n+0)=n+0 from bA (by omega) (by omega))<|zh (show 0≤(i:Int)∧(i:Int)<(↑(es.map Ex.av).length:Int) from by simp;omega)<|ze hx<|zh (show IntKind.wrap .i64 (n+0+(↑(List.length (x.ax.map Ex.av)):Int))=n+0+(↑(List.length (x.ax.map Ex.av)):Int) from bA (by omega) (by omega))<|zf hc<|zh (zN (es.map Ex.av))<|zd (.g8 [1,5,6,7,8,9,10] [K1 312])<|zl l120_2q<|zh (w1 i (by omega))<|zh (zN (es.map Ex.av))<|zh (zN (nx2.map Ex.av))<|zq ⟨rfl,rfl⟩
theorem HW (hes:es.length≤1048577) (nx nx2:List Ex) (hnl:(nx.map Ex.av).length≤1048577) (hn:0≤n∧n≤1048577) (hlf:0≤lf∧lf≤1048577) (i:Nat) (x:Ex) (hi:i<es.length) (hx:(es.map Ex.av)[0+Int.toNat (i:Int)]? =some (.al x.ac)) (hkl:(x.ax.map Ex.av).length<10000000000000) (hc:decide (lf<n+((nx.map Ex.av).length:Nat)+((x.ax.map Ex.av).length:Nat))=false) (l120_2q:Lo 75 (O Tryz.f120 2) ⟨[(1,sI lf),(5,sI n),(6,.aw 312 0 (es.map Ex.av).length),(7,sI dp),(8,.aw 372 0 (nx.map Ex.av).length),(9,sI (i:Int)),(10,sI 0)],(uV es nx)⟩ (.ar 4) ⟨[(1,sI lf),(5,sI n),(6,.aw 312 0 (es.map Ex.av).length),(7,sI dp),(8,.aw 372 0 (nx2.map Ex.av).length),(9,sI (i:Int))],[du es,HV nx2]⟩):EN 75 (O Tryz.f120 1) ⟨[(1,sI lf),(5,sI n),(6,.aw 312 0 (es.map Ex.av).length),(7,sI dp),(8,.aw 372 0 (nx.map Ex.av).length),(9,sI (i:Int))],(uV es nx)⟩ ⟨[(1,sI lf),(5,sI n),(6,.aw 312 0 (es.map Ex.av).length),(7,sI dp),(8,.aw 372 0 (nx2.map Ex.av).length),(9,sI ((i+1:Nat):Int))],[du es,HV nx2]⟩:=by
 have o0:=l120_2q
 exact au Tryz.f120 0
theorem MG (hes:es.length≤1048577) (hn:0≤n∧n≤1048577) (hlf:0≤lf∧lf≤1048577) (i:Nat) (x:Ex) (hi:i<es.length) (hx:(es.map Ex.av)[0+Int.toNat (i:Int)]? =some (.al x.ac)) (hkl:(x.ax.map Ex.av).length<10000000000000) (hc:decide (lf<n+0+((x.ax.map Ex.av).length:Nat))=true):En 75 (O Tryz.f120 1) ⟨[(1,sI lf),(5,sI n),(6,.aw 312 0 (es.map Ex.av).length),(7,sI dp),(8,.ab),(9,sI (i:Int))],[du es]⟩ (fun e t=>e= .aR∧t=⟨[(4,sI (lf+1))],[]⟩):=by
 exact z0<|zt (d1 Ex.av es i (by omega))<|zh (show IntKind.wrap .i64 (n+0)=n+0 from bA (by omega) (by omega))<|zh (show 0≤(i:Int)∧(i:Int)<(↑(es.map Ex.av).length:Int) from by simp;omega)<|ze hx<|zh (show IntKind.wrap .i64 (n+0+(↑(List.length (x.ax.map Ex.av)):Int))=n+0+(↑(List.length (x.ax.map Ex.av)):Int) from bA (by omega) (by omega))<|zt hc<|zh (w1 lf (by omega))<|zq ⟨rfl,rfl⟩
theorem ME (hes:es.length≤1048577):En 75 (O Tryz.f120 1) ⟨[(1,sI lf),(5,sI n),(6,.aw 312 0 (es.map Ex.av).length),(7,sI dp),(8,.ab),(9,sI ((es.length:Nat):Int))],[du es]⟩ (fun e t=>e= .ar 2∧t=⟨[(1,sI lf),(5,sI n),(6,.aw 312 0 (es.map Ex.av).length),(7,sI dp),(8,.ab)],[du es]⟩):=au Tryz.f120 0
theorem MF (hes:es.length≤1048577) (nx:List Ex) (hnl:(nx.map Ex.av).length≤1048577) (hn:0≤n∧n≤1048577) (hlf:0≤lf∧lf≤1048577) (i:Nat) (x:Ex) (hi:i<es.length) (hx:(es.map Ex.av)[0+Int.toNat (i:Int)]? =some (.al x.ac)) (hkl:(x.ax.map Ex.av).length<10000000000000) (hc:decide (lf<n+((nx.map Ex.av).length:Nat)+((x.ax.map Ex.av).length:Nat))=true):En 75 (O Tryz.f120 1) ⟨[(1,sI lf),(5,sI n),(6,.aw 312 0 (es.map Ex.av).length),(7,sI dp),(8,.aw 372 0 (nx.map Ex.av).length),(9,sI (i:Int))],(uV es nx)⟩ (fun e t=>e= .aR∧t=⟨[(4,sI (lf+1))],[]⟩):=au Tryz.f120 0
theorem MD (hes:es.length≤1048577) (nx:List Ex):En 75 (O Tryz.f120 1) ⟨[(1,sI lf),(5,sI n),(6,.aw 312 0 (es.map Ex.av).length),(7,sI dp),(8,.aw 372 0 (nx.map Ex.av).length),(9,sI ((es.length:Nat):Int))],(uV es nx)⟩ (fun e t=>e= .ar 2∧t=⟨[(1,sI lf),(5,sI n),(6,.aw 312 0 (es.map Ex.av).length),(7,sI dp),(8,.aw 372 0 (nx.map Ex.av).length)],(uV es nx)⟩):=au Tryz.f120 0
theorem MC (hes:es.length≤1048577) (hS:∀x,x∈es→uT x) (hn:0≤n∧n≤1048577) (hlf:0≤lf∧lf≤1048577) (hnl:n≤lf):Lo 75 (O Tryz.f120 1) ⟨[(1,sI lf),(5,sI n),(6,.aw 312 0 (es.map Ex.av).length),(7,sI dp),(8,nV []),(9,sI 0)],du es::nP []⟩ .aR ⟨[(4,sI (lf+1))],[]⟩∨∃nx:List Ex,n+nx.length≤lf∧(∀x,x∈nx→uT x)∧Lo 75 (O Tryz.f120 1) ⟨[(1,sI lf),(5,sI n),(6,.aw 312 0 (es.map Ex.av).length),(7,sI dp),(8,nV []),(9,sI 0)],du es::nP []⟩ (.ar 2) ⟨[(1,sI lf),(5,sI n),(6,.aw 312 0 (es.map Ex.av).length),(7,sI dp),(8,nV nx)],du es::nP nx⟩:=by
 have T:∀(i:Nat) (nx:List Ex),i<es.length→(n+nx.length≤lf∧∀x,x∈nx→uT x)→En 75 (O Tryz.f120 1) ⟨[(1,sI lf),(5,sI n),(6,.aw 312 0 (es.map Ex.av).length),(7,sI dp),(8,nV nx),(9,sI (i:Int))],du es::nP nx⟩ (fun e s=>(e= .aR∧s=⟨[(4,sI (lf+1))],[]⟩)∨(e= .aj∧∃g:List Ex,(n+g.length≤lf∧∀x,x∈g→uT x)∧s=⟨[(1,sI lf),(5,sI n),(6,.aw 312 0 (es.map Ex.av).length),(7,sI dp),(8,nV g),(9,sI ((i+1:Nat):Int))],du es::nP g⟩)):=by
  intro i nx hi ⟨h1,h2⟩
  have hxe:es[i]? =some es[i]:=List.getElem?_eq_getElem hi
  generalize es[i]=x at hxe
  have hSx:=hS x (List.mem_of_getElem? hxe)
  have hx:(es.map Ex.av)[0+Int.toNat (i:Int)]? =some (.al x.ac):=by rw [Nat.zero_add,Int.toNat_natCast,List.getElem?_map,hxe,Option.map_some,Ex.de]
  have hkl:(x.ax.map Ex.av).length<10000000000000:=by rw [List.length_map];exact hSx.pB
  have hkk:(x.ax.map Ex.av).length=x.ax.length:=List.length_map ..
  have hall:∀y,y∈nx++x.ax→uT y:=fun y hy=>(List.mem_append.1 hy).elim (h2 y) (hSx.kid y)
  have hnn:nx.length≤1048577:=by omega
  cases nx with
  |nil=>
   by_cases hc:lf<n+0+((x.ax.map Ex.av).length:Nat)
   ·obtain ⟨e,t,⟨rfl,rfl⟩,h⟩:=MG lf n dp es hes hn hlf i x hi hx hkl (decide_eq_true hc)
    exact ⟨_,_,.inl ⟨rfl,rfl⟩,h⟩
   ·have hq:=Ep lf n dp es hes [] i x hi hx (by simp;omega)
    have hfin:n+([]++x.ax).length≤lf:=by simp;omega
    revert hq hall hfin
    generalize ([]:List Ex)++x.ax=m
    intro hall hq hfin
    cases m with
    |nil=>
     obtain ⟨e,t,⟨rfl,rfl⟩,h⟩:=HY lf n dp es hes hn hlf i x hi hx hkl (decide_eq_false hc) hq
     exact ⟨_,_,.inr ⟨rfl,[],⟨hfin,hall⟩,rfl⟩,h⟩
    |cons a r=>
     obtain ⟨e,t,⟨rfl,rfl⟩,h⟩:=HX lf n dp es hes (a::r) hn hlf i x hi hx hkl (decide_eq_false hc) hq
     exact ⟨_,_,.inr ⟨rfl,a::r,⟨hfin,hall⟩,rfl⟩,h⟩
  |cons b q=>
   have hnk:((b::q).map Ex.av).length=(b::q).length:=List.length_map ..
   by_cases hc:lf<n+(((b::q).map Ex.av).length:Nat)+((x.ax.map Ex.av).length:Nat)
   ·obtain ⟨e,t,⟨rfl,rfl⟩,h⟩:=MF lf n dp es hes (b::q) (by omega) hn hlf i x hi hx hkl (decide_eq_true hc)
    exact ⟨_,_,.inl ⟨rfl,rfl⟩,h⟩
   ·have hq:=Ep lf n dp es hes (b::q) i x hi hx (by omega)
    have hfin:n+((b::q)++x.ax).length≤lf:=by rw [List.length_append];omega
    obtain ⟨e,t,⟨rfl,rfl⟩,h⟩:=HW lf n dp es hes (b::q) ((b::q)++x.ax) (by omega) hn hlf i x hi hx hkl (decide_eq_false hc) hq
    exact ⟨_,_,.inr ⟨rfl,(b::q)++x.ax,⟨hfin,hall⟩,rfl⟩,h⟩
 rcases kq (P:=Tryz.prog) (n:=75) (c:=O Tryz.f120 1) (N:=es.length) (k:=2) (γ:=List Ex) (fun i nx=>⟨[(1,sI lf),(5,sI n),(6,.aw 312 0 (es.map Ex.av).length),(7,sI dp),(8,nV nx),(9,sI (i:Int))],du es::nP nx⟩) (fun nx=>⟨[(1,sI lf),(5,sI n),(6,.aw 312 0 (es.map Ex.av).length),(7,sI dp),(8,nV nx)],du es::nP nx⟩) (fun s=>s=⟨[(4,sI (lf+1))],[]⟩) (fun i nx=>n+nx.length≤lf∧∀x,x∈nx→uT x) T (fun nx _=>by
  cases nx with
  |nil=>exact ME lf n dp es hes
  |cons a r=>exact MD lf n dp es hes (a::r)) [] ⟨by simpa using hnl,by simp⟩ with ⟨s,h,rfl⟩|⟨nx,⟨h1,h2⟩,h⟩
 ·exact .inl h
 ·exact .inr ⟨nx,h1,h2,h⟩
theorem RM (hes:(es.map Ex.av).length≤1048577) (hne:0<(es.map Ex.av).length) (hn:0≤n∧n≤1048577) (hlf:0≤lf∧lf≤1048577) (hd:0≤dp∧dp≤1048577) (hc:decide (lf<(n+((es.map Ex.av).length:Nat)))=true):En 75 (O Tryz.f120 0) ⟨[(1,sI lf),(5,sI n),(6,.aw 312 0 (es.map Ex.av).length),(7,sI dp)],[du es]⟩ (fun e t=>e= .aR∧t=⟨[(4,sI (lf+1))],[]⟩):=au Tryz.f120 0
theorem RO (hes:(es.map Ex.av).length≤1048577) (hne:0<(es.map Ex.av).length) (hn:0≤n∧n≤1048577) (hlf:0≤lf∧lf≤1048577) (hd:0≤dp∧dp≤1048577) (hc:decide (lf<(n+((es.map Ex.av).length:Nat)))=false) (hdp:decide (65536<dp)=true):En 75 (O Tryz.f120 0) ⟨[(1,sI lf),(5,sI n),(6,.aw 312 0 (es.map Ex.av).length),(7,sI dp)],[du es]⟩ (fun e t=>e= .aR∧t=⟨[(4,sI (lf+1))],[]⟩):=au Tryz.f120 0
theorem RP (hes:(es.map Ex.av).length≤1048577) (hne:0<(es.map Ex.av).length) (hn:0≤n∧n≤1048577) (hlf:0≤lf∧lf≤1048577) (hd:0≤dp∧dp≤1048577) (hc:decide (lf<(n+((es.map Ex.av).length:Nat)))=false) (hdp:decide (65536<dp)=false) (l120_1q:Lo 75 (O Tryz.f120 1) ⟨[(1,sI lf),(5,sI (n+((es.map Ex.av).length:Nat))),(6,.aw 312 0 (es.map Ex.av).length),(7,sI dp),(8,.ab),(9,sI 0)],[du es]⟩ .aR ⟨[(4,sI (lf+1))],[]⟩):En 75 (O Tryz.f120 0) ⟨[(1,sI lf),(5,sI n),(6,.aw 312 0 (es.map Ex.av).length),(7,sI dp)],[du es]⟩ (fun e t=>e= .aR∧t=⟨[(4,sI (lf+1))],[]⟩):=by
 have o0:=l120_1q
 exact au Tryz.f120 0
theorem RQ (hes:(es.map Ex.av).length≤1048577) (hne:0<(es.map Ex.av).length) (hn:0≤n∧n≤1048577) (hlf:0≤lf∧lf≤1048577) (hd:0≤dp∧dp≤1048577) (hc:decide (lf<(n+((es.map Ex.av).length:Nat)))=false) (hdp:decide (65536<dp)=false) (l120_1q:Lo 75 (O Tryz.f120 1) ⟨[(1,sI lf),(5,sI (n+((es.map Ex.av).length:Nat))),(6,.aw 312 0 (es.map Ex.av).length),(7,sI dp),(8,.ab),(9,sI 0)],[du es]⟩ (.ar 2) ⟨[(1,sI lf),(5,sI (n+((es.map Ex.av).length:Nat))),(6,.aw 312 0 (es.map Ex.av).length),(7,sI dp),(8,.ab)],[du es]⟩):EN 75 (O Tryz.f120 0) ⟨[(1,sI lf),(5,sI n),(6,.aw 312 0 (es.map Ex.av).length),(7,sI dp)],[du es]⟩ ⟨[(1,sI lf),(5,sI (n+((es.map Ex.av).length:Nat))),(6,.ab),(7,sI (dp+1))],[]⟩:=by
 have o0:=l120_1q
 exact au Tryz.f120 0
theorem RR (hes:(es.map Ex.av).length≤1048577) (hne:0<(es.map Ex.av).length) (hn:0≤n∧n≤1048577) (hlf:0≤lf∧lf≤1048577) (hd:0≤dp∧dp≤1048577) (nx:List Ex) (hc:decide (lf<(n+((es.map Ex.av).length:Nat)))=false) (hdp:decide (65536<dp)=false) (l120_1q:Lo 75 (O Tryz.f120 1) ⟨[(1,sI lf),(5,sI (n+((es.map Ex.av).length:Nat))),(6,.aw 312 0 (es.map Ex.av).length),(7,sI dp),(8,.ab),(9,sI 0)],[du es]⟩ (.ar 2) ⟨[(1,sI lf),(5,sI (n+((es.map Ex.av).length:Nat))),(6,.aw 312 0 (es.map Ex.av).length),(7,sI dp),(8,.aw 372 0 (nx.map Ex.av).length)],(uV es nx)⟩):EN 75 (O Tryz.f120 0) ⟨[(1,sI lf),(5,sI n),(6,.aw 312 0 (es.map Ex.av).length),(7,sI dp)],[du es]⟩ ⟨[(1,sI lf),(5,sI (n+((es.map Ex.av).length:Nat))),(6,.aw 312 0 (nx.map Ex.av).length),(7,sI (dp+1))],[(312,.aw 6 (nx.map Ex.av))]⟩:=by
 have o0:=l120_1q
 exact au Tryz.f120 0
theorem RS:En 75 (O Tryz.f120 0) ⟨[(1,sI lf),(5,sI n),(6,.ab),(7,sI dp)],[]⟩ (fun e t=>e= .ar 0∧t=⟨[(5,sI n)],[]⟩):=au Tryz.f120 0
def lV:List Ex→AV
 |[]=> .ab
 |x::r=> .aw 312 0 ((x::r).map Ex.av).length
def lP:List Ex→List (Nat×Ob)
 |[]=>[]
 |x::r=>[(312,.aw 6 ((x::r).map Ex.av))]
theorem Eo (lf:Int) (hlf:0≤lf∧lf≤1048577):∀(m:Nat) (n dp:Int) (es:List Ex),lf-n<m→0≤n→n≤lf→0≤dp→dp≤n→(∀x,x∈es→uT x)→es.length≤1048577→
  Lo 75 (O Tryz.f120 0) ⟨[(1,sI lf),(5,sI n),(6,lV es),(7,sI dp)],lP es⟩ .aR ⟨[(4,sI (lf+1))],[]⟩∨∃n':Int,0≤n'∧n'≤lf∧Lo 75 (O Tryz.f120 0) ⟨[(1,sI lf),(5,sI n),(6,lV es),(7,sI dp)],lP es⟩ (.ar 0) ⟨[(5,sI n')],[]⟩
 |0,n,dp,es,h1,h2,h3,_,_,_,_=>by omega
 |m+1,n,dp,es,h1,h2,h3,h4,h5,hS,hl=>by
  cases es with
  |nil=>
   obtain ⟨e,t,⟨rfl,rfl⟩,h⟩:=RS lf n dp
   exact .inr ⟨n,h2,h3,.bD h (by simp)⟩
  |cons a q=>
   have hes:((a::q).map Ex.av).length≤1048577:=by rw [List.length_map];exact hl
   have hne:0<((a::q).map Ex.av).length:=by simp
   have hlm:((a::q).map Ex.av).length=(a::q).length:=List.length_map ..
   by_cases hc:lf<n+(((a::q).map Ex.av).length:Nat)
   ·obtain ⟨e,t,⟨rfl,rfl⟩,h⟩:=RM lf n dp (a::q) hes hne ⟨h2,by omega⟩ hlf ⟨h4,by omega⟩ (decide_eq_true hc)
    exact .inl (.bD h (by simp))
   ·by_cases hdp:(65536:Int)<dp
    ·obtain ⟨e,t,⟨rfl,rfl⟩,h⟩:=RO lf n dp (a::q) hes hne ⟨h2,by omega⟩ hlf ⟨h4,by omega⟩ (decide_eq_false hc) (decide_eq_true hdp)
     exact .inl (.bD h (by simp))
    ·rcases MC lf (n+(((a::q).map Ex.av).length:Nat)) dp (a::q) hl hS ⟨by omega,by omega⟩ hlf (by omega) with hM|⟨nx,g1,g2,hM⟩
     ·obtain ⟨e,t,⟨rfl,rfl⟩,h⟩:=RP lf n dp (a::q) hes hne ⟨h2,by omega⟩ hlf ⟨h4,by omega⟩ (decide_eq_false hc) (decide_eq_false hdp) hM
      exact .inl (.bD h (by simp))
     ·have turn:Rz 75 (O Tryz.f120 0) ⟨[(1,sI lf),(5,sI n),(6,lV (a::q)),(7,sI dp)],lP (a::q)⟩ .aj ⟨[(1,sI lf),(5,sI (n+(((a::q).map Ex.av).length:Nat))),(6,lV nx),(7,sI (dp+1))],lP nx⟩:=by
       cases nx with
       |nil=>
        obtain ⟨e,t,⟨rfl,rfl⟩,h⟩:=RQ lf n dp (a::q) hes hne ⟨h2,by omega⟩ hlf ⟨h4,by omega⟩ (decide_eq_false hc) (decide_eq_false hdp) hM
        exact h
       |cons b r=>
        obtain ⟨e,t,⟨rfl,rfl⟩,h⟩:=RR lf n dp (a::q) hes hne ⟨h2,by omega⟩ hlf ⟨h4,by omega⟩ (b::r) (decide_eq_false hc) (decide_eq_false hdp) hM
        exact h
      rcases Eo lf hlf m (n+(((a::q).map Ex.av).length:Nat)) (dp+1) nx (by omega) (by omega) (by omega) (by omega) (by omega) g2 (by omega) with hL|⟨n',k1,k2,hL⟩
      ·exact .inl (.cR turn hL)
      ·exact .inr ⟨n',k1,k2,.cR turn hL⟩
theorem RL (e:Ex) (lf:Int) (hlf:0≤lf∧lf≤1048577) (hS:uT e):∃rn:Int,Sp 120 [.al e.ac,sI lf] [] (sI rn) []∧0≤rn∧rn≤lf+1:=by
 have e0:(Ex.av e)= .al e.ac:=Ex.de e
 have hL0:=Eo lf hlf (lf.toNat+1) 0 0 [e] (by omega) (by omega) (by omega) (by omega) (by omega) (fun x hx=>by rw [List.mem_singleton.1 hx];exact hS) (by simp)
 have e1:lP [e]=[(312,.aw 6 [.al e.ac])]:=by rw [←e0];rfl
 rw [e1] at hL0
 rcases hL0 with hL|⟨n,h1,h2,hL⟩
 ·skip
  exact ⟨lf+1,(aK Tryz.f120 300 75 (ha:=(by have hi:=cZ e;rw [Ex.de] at hi;simpa [aa,aJ] using hi))),by omega,by omega⟩
 ·skip
  exact ⟨n,(aK Tryz.f120 300 75 (ha:=(by have hi:=cZ e;rw [Ex.de] at hi;simpa [aa,aJ] using hi))),h1,by omega⟩
end
section
variable (p:ByteArray) (hd:List Ar) (bd:List Li) (x:Li) (rules:List Ru) (lf n:Int)
def NX (x:Li):Prop:=uT x.l∧uT x.r∧x.ts.length<2932031007318
def B6 (r:Ru):Prop:=r.hd.length<2513169434844∧r.bd.length<651562446071∧∀x,x∈r.bd→NX x
theorem XZ (hlf:0≤lf∧lf≤1048577) (r0:Int) (h0:0≤r0∧r0≤lf+1) (htl:(x.ts.map Tm.av).length<10000000000000) (k120p:Sp 120 [.al x.l.ac,sI lf] [] (sI r0) []) (hc:decide (lf<(1+((x.ts.map Tm.av).length:Nat)+r0))=true):En 29 (ai Tryz.f70) ⟨[(0,x.av),(1,sI lf)],[]⟩ (fun e t=>e= .aR∧t=⟨[(4,sI (lf+1))],[]⟩):=au Tryz.f70 0
theorem X0 (hlf:0≤lf∧lf≤1048577) (r0:Int) (h0:0≤r0∧r0≤lf+1) (htl:(x.ts.map Tm.av).length<10000000000000) (k120p:Sp 120 [.al x.l.ac,sI lf] [] (sI r0) []) (hq:(1+((x.ts.map Tm.av).length:Nat)+r0)≤lf) (hc:decide (lf<(1+((x.ts.map Tm.av).length:Nat)+r0))=false) (r3:Int) (h3:0≤r3∧r3≤lf+1) (RL:Sp 120 [.al x.r.ac,sI (lf-(1+((x.ts.map Tm.av).length:Nat)+r0))] [] (sI r3) []):En 29 (ai Tryz.f70) ⟨[(0,x.av),(1,sI lf)],[]⟩ (fun e t=>e= .aR∧t=⟨[(4,sI ((1+((x.ts.map Tm.av).length:Nat)+r0)+r3))],[]⟩):=au Tryz.f70 0
theorem k70 (hlf:0≤lf∧lf≤1048577) (hx:NX x):∃rn:Int,Sp 70 [x.av,sI lf] [] (sI rn) []∧0≤rn∧rn≤lf+1:=by
 obtain ⟨hl,hr,ht⟩:=hx
 have htl:(x.ts.map Tm.av).length<10000000000000:=by rw [List.length_map];omega
 obtain ⟨r0,s0,a0,a1⟩:=RL x.l lf hlf hl
 have fin:∀rn:Int,Rz 29 (ai Tryz.f70) ⟨[(0,x.av),(1,sI lf)],[]⟩ .aR ⟨[(4,sI rn)],[]⟩→Sp 70 [x.av,sI lf] [] (sI rn) []:=fun rn h=>
  sP Tryz.f70 (by simp [aa,et]) h (.inr rfl)
 by_cases hc:lf<(1+((x.ts.map Tm.av).length:Nat)+r0)
 ·obtain ⟨e,t,⟨rfl,rfl⟩,h⟩:=XZ x lf hlf r0 ⟨a0,a1⟩ htl s0 (decide_eq_true hc)
  exact ⟨_,fin _ h,by omega,by omega⟩
 ·obtain ⟨r3,s3,c0,c1⟩:=RL x.r (lf-(1+((x.ts.map Tm.av).length:Nat)+r0)) ⟨by omega,by omega⟩ hr
  obtain ⟨e,t,⟨rfl,rfl⟩,h⟩:=X0 x lf hlf r0 ⟨a0,a1⟩ htl s0 (by omega) (decide_eq_false hc) r3 ⟨c0,by omega⟩ s3
  exact ⟨_,fin _ h,by omega,by omega⟩
theorem t34 (hn:1≤n∧n≤20000000000000) (hq:n≤1048576) (hS:∀x,x∈bd→NX x) (hll:(bd.map Li.av).length=bd.length) (hbl:(bd.map Li.av).length<10000000000000) (i:Nat) (hi:i<bd.length):En 35 (O Tryz.f34 0) ⟨[(1,sI 1048576),(2,.aE [.J p,sA hd,sL bd]),(5,sI n),(6,sI (i:Int))],[]⟩ (fun e t=>e= .aj∧∃m:Int,(1≤m∧m≤20000000000000)∧t=⟨[(1,sI 1048576),(2,.aE [.J p,sA hd,sL bd]),(5,sI m),(6,sI ((i+1:Nat):Int))],[]⟩):=by
 obtain ⟨x0,hm0,hx0⟩:=dC Li.av (l:=bd) (n:=(↑i:Int)) (by omega) (by omega)
 obtain ⟨r1,⟨hs2,hs2'⟩⟩:=k70 x0 (1048576-n) (by omega) (hS _ (List.mem_of_getElem? (by assumption)))
 exact z0<|zt (show decide ((i:Int)<(↑(bd.map Li.av).length:Int))=true from decide_eq_true (by omega))<|zt (show decide (n≤1048576)=true from decide_eq_true (by omega))<|ze hx0<|zh (show IntKind.wrap .i64 (1048576-n)=1048576-n from bA (by omega) (by omega))<|zc hs2<|zh (show IntKind.wrap .i64 (n+r1)=n+r1 from bA (by omega) (by omega))<|zh (w1 i (by omega))<|zq ⟨rfl,(n+r1),by omega,rfl⟩
theorem X1 (hn:1≤n∧n≤20000000000000):En 35 (O Tryz.f34 0) ⟨[(1,sI 1048576),(2,.aE [.J p,sA hd,sL bd]),(5,sI n),(6,sI ((bd.length:Nat):Int))],[]⟩ (fun e t=>e= .ar 0∧t=⟨[(5,sI n)],[]⟩):=au Tryz.f34 0
theorem X2 (hn:1≤n∧n≤20000000000000) (hq:1048576<n) (hll:(bd.map Li.av).length=bd.length) (i:Nat) (hi:i<bd.length):En 35 (O Tryz.f34 0) ⟨[(1,sI 1048576),(2,.aE [.J p,sA hd,sL bd]),(5,sI n),(6,sI (i:Int))],[]⟩ (fun e t=>e= .ar 0∧t=⟨[(5,sI n)],[]⟩):=au Tryz.f34 0
theorem JX (p:ByteArray) (hd:List Ar) (bd:List Li) (hS:∀x,x∈bd→NX x) (hbl:bd.length<10000000000000):∀(m i:Nat) (n:Int),i+m=bd.length→(1≤n∧n≤20000000000000)→
  ∃n':Int,(1≤n'∧n'≤20000000000000)∧Lo 35 (O Tryz.f34 0) ⟨[(1,sI 1048576),(2,.aE [.J p,sA hd,sL bd]),(5,sI n),(6,sI (i:Int))],[]⟩ (.ar 0) ⟨[(5,sI n')],[]⟩
 |0,i,n,him,hn=>by
  have:i=bd.length:=by omega
  subst this
  obtain ⟨e,t,⟨rfl,rfl⟩,h⟩:=X1 p hd bd n hn
  exact ⟨n,hn,.bD h (by simp)⟩
 |m+1,i,n,him,hn=>by
  have hll:(bd.map Li.av).length=bd.length:=List.length_map ..
  by_cases hq:n≤1048576
  ·obtain ⟨e,t,⟨rfl,n2,hn2,rfl⟩,h⟩:=t34 p hd bd n hn hq hS hll (by omega) i (by omega)
   obtain ⟨n',h1,hL⟩:=JX p hd bd hS hbl m (i+1) n2 (by omega) hn2
   exact ⟨n',h1,.cR h hL⟩
  ·obtain ⟨e,t,⟨rfl,rfl⟩,h⟩:=X2 p hd bd n hn (by omega) hll i (by omega)
   exact ⟨n,hn,.bD h (by simp)⟩
theorem b34 (hhl:(hd.map Ar.av).length<10000000000000) (n:Int) (l34_0q:Lo 35 (O Tryz.f34 0) ⟨[(1,sI 1048576),(2,.aE [.J p,sA hd,sL bd]),(5,sI (1+((hd.map Ar.av).length:Nat))),(6,sI 0)],[]⟩ (.ar 0) ⟨[(5,sI n)],[]⟩):En 35 (ca 1 (ai Tryz.f34)) ⟨[(1,sI 1048576),(2,.aE [.J p,sA hd,sL bd]),(4,sI 0)],[]⟩ (fun e t=>e= .aR∧t=⟨[(4,sI n)],[]⟩):=by
 have o0:=l34_0q
 exact au Tryz.f34 0
theorem w34:EN 35 (cF 0 (ai Tryz.f34)) ⟨[(0,.al [.J p,sA hd,sL bd]),(1,sI 1048576)],[]⟩ ⟨[(1,sI 1048576),(2,.aE [.J p,sA hd,sL bd]),(4,sI 0)],[]⟩:=au Tryz.f34 0
theorem k34 (hr:B6 ⟨p,hd,bd⟩):∃rn:Int,Sp 34 [.al [.J p,sA hd,sL bd],sI 1048576] [] (sI rn) []∧1≤rn∧rn≤20000000000000:=by
 obtain ⟨h1,h2,h3⟩:=hr
 simp only at h1 h2 h3
 have hhl:(hd.map Ar.av).length<10000000000000:=by rw [List.length_map];omega
 obtain ⟨n,hn,hL⟩:=JX p hd bd h3 (by omega) bd.length 0 (1+((hd.map Ar.av).length:Nat)) (by omega) ⟨by omega,by omega⟩
 obtain ⟨e,t,⟨rfl,rfl⟩,r0⟩:=w34 p hd bd
 obtain ⟨e,t,⟨rfl,rfl⟩,h⟩:=b34 p hd bd hhl n hL
 exact ⟨n,sP Tryz.f34 (by simp [aa,aJ]) (cf.iI 0 (by kernel_rfl) r0 h) (.inr rfl),hn.1,hn.2⟩
abbrev MK:St:=⟨[(2,.ak true)],[]⟩
theorem t43 (hn:0≤n∧n≤1048576) (hS:∀r,r∈rules→B6 r) (hll:(rules.map Ru.av).length=rules.length) (i:Nat) (hi:i<rules.length) (hsm:rules.length<10000000000000):En 20 (O Tryz.f43 0) ⟨[(0,sR rules),(3,sI n),(4,sI (i:Int))],[]⟩ (fun e t=>(e= .aR∧t=MK)∨(e= .aj∧∃m:Int,(n+1≤m∧m≤1048576)∧t=⟨[(0,sR rules),(3,sI m),(4,sI ((i+1:Nat):Int))],[]⟩)):=by
 obtain ⟨x0,hm0,hx0⟩:=dC Ru.av (l:=rules) (n:=(↑i:Int)) (by omega) (by omega)
 obtain ⟨r1,⟨hs2,hs2'⟩⟩:=k34 x0.1 x0.2 x0.3 (hS _ (List.mem_of_getElem? (by assumption)))
 exact z0<|zt (show decide ((i:Int)<(↑(rules.map Ru.av).length:Int))=true from decide_eq_true (by omega))<|ze hx0<|zc hs2<|zh (show IntKind.wrap .i64 (n+r1)=n+r1 from bA (by omega) (by omega))<|zB (1048576<n+r1) (fun h3=>zq (.inl ⟨rfl,rfl⟩) [2] []) fun h3=>zh (w1 i (by omega))<|zq (.inr ⟨rfl,(n+r1),by first|omega|(simp at*;omega),rfl⟩)
theorem RT (hS:∀r,r∈rules→B6 r) (hsm:rules.length<10000000000000):
  Lo 20 (O Tryz.f43 0) ⟨[(0,sR rules),(3,sI 0),(4,sI 0)],[]⟩ .aR MK∨(rules.length≤1048576∧Lo 20 (O Tryz.f43 0) ⟨[(0,sR rules),(3,sI 0),(4,sI 0)],[]⟩ (.ar 0) ⟨[],[]⟩):=by
 rcases kq (P:=Tryz.prog) (n:=20) (c:=O Tryz.f43 0) (N:=rules.length) (k:=0) (γ:=Int) (fun i n=>⟨[(0,sR rules),(3,sI n),(4,sI (i:Int))],[]⟩) (fun _=>⟨[],[]⟩) (fun s=>s=MK) (fun i n=>(i:Int)≤n∧n≤1048576) (fun i n hi hn=>by
  obtain ⟨e,t,⟨rfl,rfl⟩|⟨rfl,m,hm,rfl⟩,h⟩:=t43 rules n ⟨by omega,hn.2⟩ hS (List.length_map ..) i hi hsm
  ·exact ⟨_,_,.inl ⟨rfl,rfl⟩,h⟩
  ·exact ⟨_,_,.inr ⟨rfl,m,⟨by omega,hm.2⟩,rfl⟩,h⟩) (fun n _=>au Tryz.f43 0) 0 (by simp) with ⟨s,h,rfl⟩|⟨n,hn,h⟩
 ·exact .inl h
 ·exact .inr ⟨by omega,h⟩
theorem k43 (hS:∀r,r∈rules→B6 r) (hsm:rules.length<10000000000000):∃rb:Bool,Sp 43 [sR rules] [] (.ak rb) []∧(rb=false→rules.length≤1048576):=by
 rcases RT rules hS hsm with hL|⟨h1,hL⟩
 ·skip
  exact ⟨true,(aK Tryz.f43 0 20),fun h=>by cases h⟩
 ·skip
  exact ⟨false,(aK Tryz.f43 0 20),fun _=>h1⟩
end
end Go.Ped
namespace Go.Ped
open Go.RowKit Go.Proofs Go.WideShapes Go.Deep Go.ChangeShapes
section
section
variable {S:df} {β:bn} {w:World}
theorem bY.app {xs ys:List Value} {us vs:List AV} (h1:bY S β w xs us) (h2:bY S β w ys vs):bY S β w (xs++ys) (us++vs):=by
 refine ⟨by rw [List.length_append,List.length_append,h1.1,h2.1],fun i v x hv hx=> ?_⟩
 by_cases hi:i<xs.length
 ·rw [List.getElem?_append_left hi] at hv
  rw [List.getElem?_append_left (by rw [←h1.1];exact hi)] at hx
  exact h1.2 i v x hv hx
 ·rw [List.getElem?_append_right (by omega)] at hv
  rw [List.getElem?_append_right (by rw [←h1.1];omega),←h1.1] at hx
  exact h2.2 _ v x hv hx
theorem bY.BA {cs:List Value} {A B:List AV} (o a:Nat) (h1:bY S β w (List.take a (List.drop o cs)) A) (h2:bY S β w (List.drop (o+a) cs) B):bY S β w (List.drop o cs) (A++B):=by
 have h:=h1.app h2
 rw [←List.drop_drop,List.take_append_drop] at h
 exact h
theorem bY.BB {cs:List Value} {A:List AV} (o a:Nat) (h:bY S β w (List.take a (List.drop o cs)) A) (hl:cs.length≤o+a):bY S β w (List.drop o cs) A:=by
 rw [List.take_of_length_le (by rw [List.length_drop];omega)] at h
 exact h
end
def Fit {H:Type} (P:Program) (t:TypeId) (d:DataW H):Prop:=(d.weights P t).all (· ≤reachBytes)=true
section
variable {H:Type} {P:Program}
theorem Fit.ry {t:TypeId} {fs:Array Field} {parts:List (DataW H)} (j:Nat) {f:Field} {d:DataW H} (ht:P.underlying t=some (.struct fs)) (h:Fit P t (.agg parts)) (hf:fs[j]? =some f) (hd:parts[j]? =some d):Fit P f.type d:=by
 refine List.all_eq_true.2 fun x hx=> ?_
 unfold Fit at h
 simp only [DataW.weights,ht] at h
 refine List.all_eq_true.1 h x (DataW.weights_mem_each (j:=j) (t:=f.type) (d:=d) ?_ hd x hx)
 rw [List.getElem?_map,Array.getElem?_toList,hf]
 rfl
theorem kO {e:TypeId} {d:DataW H} {n:Nat} (hn:n∈d.weights P e):∀{l:List (DataW H)},d∈l→n∈DataW.weightsAll P e l
 |x::r,hd=>by
  rw [DataW.weightsAll,List.mem_append]
  rcases List.mem_cons.1 hd with rfl|h
  ·exact .inl hn
  ·exact .inr (kO hn h)
theorem Fit.X3 {t e:TypeId} {elems spare:List (DataW H)} {d:DataW H} (ht:P.underlying t=some (.slice e)) (h:Fit P t (.slice elems spare)) (hd:d∈elems):Fit P e d:=by
 refine List.all_eq_true.2 fun x hx=> ?_
 unfold Fit at h
 simp only [DataW.weights,ht] at h
 exact List.all_eq_true.1 h x (List.mem_cons.2 (.inr (List.mem_append.2 (.inl (kO hx hd)))))
theorem Fit.pB {t e:TypeId} {elems spare:List (DataW H)} (ht:P.underlying t=some (.slice e)) (h:Fit P t (.slice elems spare)):elems.length*P.bytesOf e≤reachBytes:=by
 unfold Fit at h
 simp only [DataW.weights,ht,List.all_cons,Bool.and_eq_true,decide_eq_true_eq] at h
 exact Nat.le_trans (Nat.mul_le_mul_right _ (Nat.le_add_right _ _)) h.1
end
section
variable {H:Type} {enc:TypeId×Value→H} {P:Program} {w:World} {base:Nat} {sp:Nat→Bool} {held:Bool}
theorem kN {X:Type} [Inhabited X] (f:X→AV) (Good:X→Prop) {t e:TypeId} {size fuel:Nat} {cs:List Value} {x:DataW H×List MemPlace} (ht:P.underlying t=some (.slice e)) (hc:P.cellsOf e=size) (hpos:0<size)
  (hfit:Fit P t x.1)
  (helem:∀(n:Nat) (cs:List Value) (y:DataW H×List MemPlace),DataW.trod enc P w base sp held n e cs=some y→Fit P e y.1→SizeOf.sizeOf y.1<SizeOf.sizeOf x.1→∃q:X,bY (lm w) fo w cs (f q).ac∧(f q).ac.length=size∧Good q)
  (h:DataW.trod enc P w base sp held fuel t cs=some x):
  ∃(v:Value) (l:List X),cs=[v]∧V (lm w) fo w v (.aF (l.map f) false)∧(∀q,q∈l→Good q)∧l.length*P.bytesOf e≤reachBytes:=by
 rcases open_slice ht h with ⟨rfl,rfl⟩|⟨a,len,cap,m,n,D,Pl,rfl,hb,hl,hm,hmm,rfl,hx⟩
 ·exact ⟨_,[],rfl,.aF none 0 0 0 0 [] false (fun _ _=>undef) (by simp) (by simp [maxLen]) (fun h=>by cases h) (fun h=>absurd rfl h) (by simp) (by simp) (by simp),by simp,by simp⟩
 ·have hlm:len≤m:=by rw [hmm];split<;>omega
  have hDm:∀i,i<len→D i∈(List.range len).map D:=fun i hi=>List.mem_map.2 ⟨i,List.mem_range.2 hi,rfl⟩
  have hDs:∀i,i<len→SizeOf.sizeOf (D i)<SizeOf.sizeOf (DataW.slice ((List.range len).map D) ((List.range (m-len)).map fun j=>D (len+j))):=fun i hi=>by
   have:=List.sizeOf_lt_of_mem (hDm i hi)
   rw [DataW.slice.sizeOf_spec]
   omega
  obtain ⟨C,hC⟩:=choose_lt (α:=List Value) (n:=len) (p:=fun i cs'=>w.cells? base (a.add (i*P.cellsOf e)) (P.cellsOf e)=some cs'∧∃y,DataW.trod enc P w base sp held n e cs'=some y∧y.1=D i) (fun i hi=>by
   obtain ⟨cs',h1,h2⟩:=hx i (by omega)
   exact ⟨cs',h1,_,h2,rfl⟩)
  obtain ⟨Q,hQ⟩:=choose_lt (α:=X) (n:=len) (p:=fun i q=>bY (lm w) fo w (C i) (f q).ac∧(f q).ac.length=size∧Good q) (fun i hi=>by
   obtain ⟨_,y,hy,hyD⟩:=hC i hi
   exact helem n _ y hy (by rw [hyD];exact hfit.X3 ht (hDm i hi)) (by rw [hyD];exact hDs i hi))
  have raw:∀i j,i<len→j<size→∃u,(C i)[j]? =some u∧w.cell? (a.add (i*size+j))=some u:=by
   intro i j hi hj
   obtain ⟨h1,_⟩:=hC i hi
   obtain ⟨_,h2,h3⟩:=World.cells?_some h1
   rw [hc] at h2 h3
   have h4:=h3 j hj
   have hlt:j<(C i).length:=by omega
   refine ⟨(C i)[j],List.getElem?_eq_getElem hlt,?_⟩
   rw [List.getElem?_eq_getElem hlt,add_add] at h4
   exact h4
  have hspot:0<len→a.spot=none:=by
   intro h0
   obtain ⟨u,_,h2⟩:=raw 0 0 h0 hpos
   have:=World.cell?_spot h2
   simpa [Addr.add] using this
  have hcell:∀i j,i<len→j<size→∃u,(C i)[j]? =some u∧w.cell? ⟨a.block,a.off+i*size+j,none⟩=some u:=by
   intro i j hi hj
   obtain ⟨u,h1,h2⟩:=raw i j hi hj
   have hsp:=hspot (by omega)
   refine ⟨u,h1,?_⟩
   obtain ⟨b,o,s⟩:=a
   simp only at hsp
   subst hsp
   rw [Addr.add_lit,←Nat.add_assoc] at h2
   exact h2
  refine ⟨_,(List.range len).map Q,rfl,?_,fun q hq=> ?_,?_⟩
  ·have hlen:((List.range len).map Q).length=len:=by simp
   have get:∀{i:Nat} {e':AV},(((List.range len).map Q).map f)[i]? =some e'→i<len∧e'=f (Q i):=by
    intro i e' he
    rw [List.getElem?_map,List.getElem?_map] at he
    have hi:i<len:=by
     apply Nat.lt_of_not_le
     intro h
     rw [List.getElem?_eq_none (by simpa using h)] at he
     cases he
    rw [List.getElem?_range hi] at he
    simp only [Option.map_some] at he
    injection he with he
    exact ⟨hi,he.symm⟩
   have hV:=V.aF (S:=lm w) (β:=fo) (w:=w) (some a) cap size a.block a.off (((List.range len).map Q).map f) false (fun i j=>(C i).getD j undef) (by simpa using hl) hm (fun h=>by cases h)
    (fun hne=>by
     have h0:0<len:=by
      apply Nat.pos_of_ne_zero
      rintro rfl
      exact hne rfl
     obtain ⟨u,_,h2⟩:=hcell 0 0 h0 hpos
     have h3:=hspot h0
     have hlt:=Gn h2
     obtain ⟨b,o,s⟩:=a
     simp only at h3
     subst h3
     exact ⟨rfl,hlt⟩)
    (fun i e' he=>by
     obtain ⟨hi,rfl⟩:=get he
     exact (hQ i hi).2.1)
    (fun i j e' c he hcj=>by
     obtain ⟨hi,rfl⟩:=get he
     have hj:j<size:=by rw [←(hQ i hi).2.1];exact (List.getElem?_eq_some_iff.1 hcj).1
     obtain ⟨u,h1,h2⟩:=hcell i j hi hj
     rw [List.getD_eq_getElem?_getD,h1]
     exact h2)
    (fun i j e' c he hcj=>by
     obtain ⟨hi,rfl⟩:=get he
     have hj:j<size:=by rw [←(hQ i hi).2.1];exact (List.getElem?_eq_some_iff.1 hcj).1
     obtain ⟨u,h1,_⟩:=hcell i j hi hj
     rw [List.getD_eq_getElem?_getD,h1]
     exact (hQ i hi).1.2 j u c h1 hcj)
   simpa using hV
  ·obtain ⟨i,hi,rfl⟩:=List.mem_map.1 hq
   exact (hQ i (List.mem_range.1 hi)).2.2
  ·have:=hfit.pB ht
   simpa using this
theorem tz {k:IntKind} {t:TypeId} {fuel:Nat} {cs:List Value} {x:DataW H×List MemPlace} (ht:P.underlying t=some (.int k)) (h:DataW.trod enc P w base sp held fuel t cs=some x):∃n:Int,bY (lm w) fo w cs [.aP k n]:=by
 obtain ⟨n,rfl,_⟩:=DataW.trod_int ht h
 exact ⟨n,bY.Bg (.aP _ _)⟩
theorem uW {t:TypeId} {fuel:Nat} {cs:List Value} {x:DataW H×List MemPlace} (ht:P.underlying t=some .string) (h:DataW.trod enc P w base sp held fuel t cs=some x):∃s:ByteArray,bY (lm w) fo w cs [.J s]:=by
 obtain ⟨s,rfl,_⟩:=PN ht h
 exact ⟨s,bY.Bg (.J s)⟩
end
section
variable {H:Type} {enc:TypeId×Value→H} {w:World} {base:Nat} {sp:Nat→Bool} {held:Bool}
theorem H3:Tryz.prog.cellsOf 22=1:=by kernel_rfl
theorem yE:Tryz.prog.cellsOf 9=1:=by kernel_rfl
theorem Ai:Tryz.prog.cellsOf 24=2:=by kernel_rfl
theorem pI:Tryz.prog.cellsOf 37=4:=by kernel_rfl
theorem H4:Tryz.prog.cellsOf 35=3:=by kernel_rfl
theorem uX:Tryz.prog.cellsOf 40=6:=by kernel_rfl
theorem Aj:Tryz.prog.cellsOf 42=16:=by kernel_rfl
theorem Ak:Tryz.prog.cellsOf 66=3:=by kernel_rfl
theorem wT:Tryz.prog.cellsOf 105=5:=by kernel_rfl
theorem HZ:Tryz.prog.bytesOf 37=48:=by kernel_rfl
theorem H0:Tryz.prog.bytesOf 40=80:=by kernel_rfl
theorem H1:Tryz.prog.bytesOf 42=216:=by kernel_rfl
theorem H2:Tryz.prog.bytesOf 66=64:=by kernel_rfl
theorem Eq:Tryz.prog.bytesOf 105=56:=by kernel_rfl
theorem rz:reachBytes=140737488351232:=rfl
instance:Inhabited Tm:=⟨PM⟩
instance:Inhabited Ar:=⟨⟨0,PM⟩⟩
instance:Inhabited Ex:=⟨.mk 0 PM []⟩
instance:Inhabited Li:=⟨⟨0,⟨#[]⟩,[],0,.mk 0 PM [],.mk 0 PM []⟩⟩
instance:Inhabited Ru:=⟨⟨⟨#[]⟩,[],[]⟩⟩
theorem yG {n:Nat} {cs:List Value} {y:DataW H×List MemPlace} (h:DataW.trod enc Tryz.prog w base sp held n 37 cs=some y):∃q:Tm,bY (lm w) fo w cs q.av.ac:=by
 obtain ⟨xs,m,rfl,_,hlen,hxs,hf⟩:=DataW.trod_struct Tryz.underlying37 h
 rw [pI] at hlen
 have hxs:xs.length=2:=hxs
 have f0:=hf 0 ⟨"Var",9,0,false,"","",0⟩ rfl
 have f1:=hf 1 ⟨"Val",35,1,false,"","",16⟩ rfl
 rw [List.getElem?_eq_getElem (by omega)] at f0 f1
 obtain ⟨v,e0⟩:=uW Tryz.underlying9 f0
 obtain ⟨ys,m',_,_,_,hys,hg⟩:=DataW.trod_struct Tryz.underlying35 f1
 have hys:ys.length=3:=hys
 have g0:=hg 0 ⟨"Kind",33,0,false,"","",0⟩ rfl
 have g1:=hg 1 ⟨"Num",2,1,false,"","",8⟩ rfl
 have g2:=hg 2 ⟨"Text",9,2,false,"","",16⟩ rfl
 rw [List.getElem?_eq_getElem (by omega)] at g0 g1 g2
 obtain ⟨k,e1⟩:=tz (show Tryz.prog.underlying 33=some (.int .i8) by kernel_rfl) g0
 obtain ⟨z,e2⟩:=tz (show Tryz.prog.underlying 2=some (.int .i64) by kernel_rfl) g1
 obtain ⟨s,e3⟩:=uW Tryz.underlying9 g2
 have c9:Tryz.prog.cellsOf 9=1:=yE
 have c33:Tryz.prog.cellsOf 33=1:=by kernel_rfl
 have c2:Tryz.prog.cellsOf 2=1:=by kernel_rfl
 simp only [c9,c33,c2,H4] at e0 e1 e2 e3
 refine ⟨⟨v,k,z,s⟩,bY.BA 0 1 (A:=[.J v]) (B:=[sJ k,sI z,.J s]) e0 ?_⟩
 have hT:List.take 3 (List.drop 1 cs)=List.drop 1 cs:=List.take_of_length_le (by rw [List.length_drop];omega)
 rw [hT] at e1 e2 e3
 exact bY.BA (cs:=List.drop 1 cs) 0 1 (A:=[sJ k]) (B:=[sI z,.J s]) e1 (bY.BA 1 1 (A:=[sI z]) (B:=[.J s]) e2 (bY.BB 2 1 e3 (by rw [List.length_drop];omega)))
theorem yF:∀(m:Nat) {n:Nat} {cs:List Value} {y:DataW H×List MemPlace},SizeOf.sizeOf y.1<m→DataW.trod enc Tryz.prog w base sp held n 40 cs=some y→Fit Tryz.prog 40 y.1→∃q:Ex,bY (lm w) fo w cs q.ac∧uT q
 |0,_,_,_,hm,_,_=>absurd hm (Nat.not_lt_zero _)
 |m+1,n,cs,y,hm,h,hfit=>by
  obtain ⟨xs,m',rfl,rfl,hlen,hxs,hf⟩:=DataW.trod_struct Tryz.underlying40 h
  rw [uX] at hlen
  have hxs:xs.length=3:=hxs
  have f0:=hf 0 ⟨"Op",32,0,false,"","",0⟩ rfl
  have f1:=hf 1 ⟨"Term",37,1,false,"","",8⟩ rfl
  have f2:=hf 2 ⟨"Kids",38,5,false,"","",56⟩ rfl
  rw [List.getElem?_eq_getElem (by omega)] at f0 f1 f2
  have hmem:(xs[2]'(by omega)).1∈xs.map fun x=>x.1:=List.mem_map.2 ⟨_,List.getElem_mem _,rfl⟩
  have hsz:SizeOf.sizeOf (xs[2]'(by omega)).1<m:=by
   have:=List.sizeOf_lt_of_mem hmem
   simp only [DataW.agg.sizeOf_spec] at hm
   omega
  have hf2:Fit Tryz.prog 38 (xs[2]'(by omega)).1:=hfit.ry 2 Tryz.underlying40 rfl (by rw [List.getElem?_map,List.getElem?_eq_getElem (by omega)];rfl)
  obtain ⟨o,e0⟩:=tz (show Tryz.prog.underlying 32=some (.int .i8) by kernel_rfl) f0
  obtain ⟨t,e1⟩:=yG f1
  obtain ⟨v,l,e2,hV,hG,hl⟩:=kN Ex.av uT Tryz.underlying38 uX (by omega) hf2 (fun n' cs' y' h1 h2 h3=>by
   obtain ⟨q,hq,hs⟩:=yF m (by omega) h1 h2
   exact ⟨q,by rw [Ex.de];exact hq,by rw [Ex.de];rfl,hs⟩) f2
  have e2':=bY.Bg hV
  rw [←e2] at e2'
  have c32:Tryz.prog.cellsOf 32=1:=by kernel_rfl
  have c38:Tryz.prog.cellsOf 38=1:=by kernel_rfl
  simp only [c32,c38,pI] at e0 e1 e2'
  rw [H0,rz] at hl
  exact ⟨.mk o t l,bY.BA 0 1 (A:=[AV.aP IntKind.i8 o]) (B:=t.av.ac++[sE l]) e0 (bY.BA 1 4 (A:=t.av.ac) (B:=[sE l]) e1 (bY.BB 5 1 e2' (by omega))),.mk o t l (by omega) hG⟩
theorem Er {n:Nat} {cs:List Value} {y:DataW H×List MemPlace} (h:DataW.trod enc Tryz.prog w base sp held n 24 cs=some y) (hfit:Fit Tryz.prog 24 y.1):∃(p:ByteArray) (ts:List Tm),bY (lm w) fo w cs (vr p ts)∧ts.length<2932031007318:=by
 obtain ⟨xs,m',rfl,rfl,hlen,hxs,hf⟩:=DataW.trod_struct Tryz.underlying24 h
 rw [Ai] at hlen
 have hxs:xs.length=2:=hxs
 have f0:=hf 0 ⟨"Pred",9,0,false,"","",0⟩ rfl
 have f1:=hf 1 ⟨"Args",22,1,false,"","",16⟩ rfl
 rw [List.getElem?_eq_getElem (by omega)] at f0 f1
 obtain ⟨p,e0⟩:=uW Tryz.underlying9 f0
 have hf1:Fit Tryz.prog 22 (xs[1]'(by omega)).1:=hfit.ry 1 Tryz.underlying24 rfl (by rw [List.getElem?_map,List.getElem?_eq_getElem (by omega)];rfl)
 obtain ⟨v,ts,e1,hV,_,hl⟩:=kN Tm.av (fun _=>True) Tryz.underlying22 pI (by omega) hf1 (fun n' cs' y' h1 _ _=>by
  obtain ⟨q,hq⟩:=yG h1
  exact ⟨q,hq,rfl,trivial⟩) f1
 have e1':=bY.Bg hV
 rw [←e1] at e1'
 simp only [yE,H3] at e0 e1'
 rw [HZ,rz] at hl
 exact ⟨p,ts,bY.BA 0 1 (A:=[AV.J p]) (B:=[sT ts]) e0 (bY.BB 1 1 e1' (by omega)),by omega⟩
theorem MM {n:Nat} {cs:List Value} {y:DataW H×List MemPlace} (h:DataW.trod enc Tryz.prog w base sp held n 42 cs=some y) (hfit:Fit Tryz.prog 42 y.1):∃x:Li,bY (lm w) fo w cs x.ac∧NX x:=by
 obtain ⟨xs,m',rfl,rfl,hlen,hxs,hf⟩:=DataW.trod_struct Tryz.underlying42 h
 rw [Aj] at hlen
 have hxs:xs.length=5:=hxs
 have f0:=hf 0 ⟨"Kind",30,0,false,"","",0⟩ rfl
 have f1:=hf 1 ⟨"Atom",24,1,false,"","",8⟩ rfl
 have f2:=hf 2 ⟨"Rel",31,3,false,"","",48⟩ rfl
 have f3:=hf 3 ⟨"Left",40,4,false,"","",56⟩ rfl
 have f4:=hf 4 ⟨"Right",40,10,false,"","",136⟩ rfl
 rw [List.getElem?_eq_getElem (by omega)] at f0 f1 f2 f3 f4
 have hf1:Fit Tryz.prog 24 (xs[1]'(by omega)).1:=hfit.ry 1 Tryz.underlying42 rfl (by rw [List.getElem?_map,List.getElem?_eq_getElem (by omega)];rfl)
 have hf3:Fit Tryz.prog 40 (xs[3]'(by omega)).1:=hfit.ry 3 Tryz.underlying42 rfl (by rw [List.getElem?_map,List.getElem?_eq_getElem (by omega)];rfl)
 have hf4:Fit Tryz.prog 40 (xs[4]'(by omega)).1:=hfit.ry 4 Tryz.underlying42 rfl (by rw [List.getElem?_map,List.getElem?_eq_getElem (by omega)];rfl)
 obtain ⟨k,e0⟩:=tz Tryz.underlying30 f0
 obtain ⟨p,ts,e1,hts⟩:=Er f1 hf1
 obtain ⟨rel,e2⟩:=tz Tryz.underlying31 f2
 obtain ⟨l,e3,hl⟩:=yF _ (Nat.lt_succ_self _) f3 hf3
 obtain ⟨r,e4,hr⟩:=yF _ (Nat.lt_succ_self _) f4 hf4
 have c30:Tryz.prog.cellsOf 30=1:=by kernel_rfl
 have c31:Tryz.prog.cellsOf 31=1:=by kernel_rfl
 simp only [c30,c31,Ai,uX] at e0 e1 e2 e3 e4
 exact ⟨⟨k,p,ts,rel,l,r⟩,bY.BA 0 1 (A:=[AV.aP IntKind.i8 k]) (B:=vr p ts++([AV.aP IntKind.i8 rel]++(l.ac++r.ac))) e0 (bY.BA 1 2 (A:=vr p ts) (B:=[AV.aP IntKind.i8 rel]++(l.ac++r.ac)) e1 (bY.BA 3 1 (A:=[AV.aP IntKind.i8 rel]) (B:=l.ac++r.ac) e2 (bY.BA 4 6 (A:=l.ac) (B:=r.ac) e3 (bY.BB 10 6 e4 (by omega))))),hl,hr,hts⟩
theorem ML {n:Nat} {cs:List Value} {y:DataW H×List MemPlace} (h:DataW.trod enc Tryz.prog w base sp held n 105 cs=some y):∃a:Ar,bY (lm w) fo w cs a.av.ac:=by
 obtain ⟨xs,m',rfl,rfl,hlen,hxs,hf⟩:=DataW.trod_struct Tryz.underlying105 h
 rw [wT] at hlen
 have hxs:xs.length=2:=hxs
 have f0:=hf 0 ⟨"Agg",103,0,false,"","",0⟩ rfl
 have f1:=hf 1 ⟨"Term",37,1,false,"","",8⟩ rfl
 rw [List.getElem?_eq_getElem (by omega)] at f0 f1
 obtain ⟨g,e0⟩:=tz (show Tryz.prog.underlying 103=some (.int .i8) by kernel_rfl) f0
 obtain ⟨t,e1⟩:=yG f1
 have c103:Tryz.prog.cellsOf 103=1:=by kernel_rfl
 simp only [c103,pI] at e0 e1
 exact ⟨⟨g,t⟩,bY.BA 0 1 (A:=[AV.aP IntKind.i8 g]) (B:=t.av.ac) e0 (bY.BB 1 4 e1 (by omega))⟩
theorem MN {n:Nat} {cs:List Value} {y:DataW H×List MemPlace} (h:DataW.trod enc Tryz.prog w base sp held n 66 cs=some y) (hfit:Fit Tryz.prog 66 y.1):∃r:Ru,bY (lm w) fo w cs r.av.ac∧r.av.ac.length=3∧B6 r:=by
 obtain ⟨xs,m',rfl,rfl,hlen,hxs,hf⟩:=DataW.trod_struct Tryz.underlying66 h
 rw [Ak] at hlen
 have hxs:xs.length=3:=hxs
 have f0:=hf 0 ⟨"Pred",9,0,false,"","",0⟩ rfl
 have f1:=hf 1 ⟨"Head",64,1,false,"","",16⟩ rfl
 have f2:=hf 2 ⟨"Body",43,2,false,"","",40⟩ rfl
 rw [List.getElem?_eq_getElem (by omega)] at f0 f1 f2
 have hf1:Fit Tryz.prog 64 (xs[1]'(by omega)).1:=hfit.ry 1 Tryz.underlying66 rfl (by rw [List.getElem?_map,List.getElem?_eq_getElem (by omega)];rfl)
 have hf2:Fit Tryz.prog 43 (xs[2]'(by omega)).1:=hfit.ry 2 Tryz.underlying66 rfl (by rw [List.getElem?_map,List.getElem?_eq_getElem (by omega)];rfl)
 obtain ⟨p,e0⟩:=uW Tryz.underlying9 f0
 obtain ⟨v1,hd,e1,hV1,_,hl1⟩:=kN Ar.av (fun _=>True) Tryz.underlying64 wT (by omega) hf1 (fun n' cs' y' h1 _ _=>by
  obtain ⟨q,hq⟩:=ML h1
  exact ⟨q,hq,rfl,trivial⟩) f1
 obtain ⟨v2,bd,e2,hV2,hG,hl2⟩:=kN Li.av NX Tryz.underlying43 Aj (by omega) hf2 (fun n' cs' y' h1 h2 _=>by
  obtain ⟨q,hq,hs⟩:=MM h1 h2
  exact ⟨q,hq,rfl,hs⟩) f2
 have e1':=bY.Bg hV1
 rw [←e1] at e1'
 have e2':=bY.Bg hV2
 rw [←e2] at e2'
 have c64:Tryz.prog.cellsOf 64=1:=by kernel_rfl
 have c43:Tryz.prog.cellsOf 43=1:=by kernel_rfl
 simp only [yE,c64,c43] at e0 e1' e2'
 rw [Eq,rz] at hl1
 rw [H1,rz] at hl2
 exact ⟨⟨p,hd,bd⟩,bY.BA 0 1 (A:=[AV.J p]) (B:=[sA hd]++[sL bd]) e0 (bY.BA 1 1 (A:=[sA hd]) (B:=[sL bd]) e1' (bY.BB 2 1 e2' (by omega))),rfl,by show hd.length<_;omega,by show bd.length<_;omega,hG⟩
end
end
end Go.Ped
