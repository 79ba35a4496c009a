/- What the functions of the packages magic and pedigreeref19 answer is proved for every input. -/
import Derived.Test.YthhfolohakiemaaGreatDoorMagI
import Derived.Test.YthhfolohakiemaaGreatDoorMagP
import Derived.Test.YthhfolohakiemaaGreatDoorMagT
import Derived.Test.YthhfolohakiemaaGreatDoorMagU
set_option linter.all false
set_option maxRecDepth 20000
set_option maxHeartbeats 800000
set_option maxRecDepth 20000
set_option maxHeartbeats 800000
namespace Go.Ped
open Go.RowKit Go.Proofs
theorem Ex.Tl {p:Ex→Prop} (h:∀x,(∀y,y∈x.ax→p y)→p x):∀x,p x
 | .mk o t k=>h _ fun y hy=>Ex.Tl h y
termination_by x=>SizeOf.sizeOf x
decreasing_by
 have:=List.sizeOf_lt_of_mem hy
 simp only [Ex.ax] at this
 simp only [Ex.mk.sizeOf_spec]
 omega
abbrev Fa:=ByteArray×List Tm
@[reducible] def B0 (x:Fa):AV:= .al [.J x.1,.aF (x.2.map fc) false]
theorem Tu (l:List Ar) (hsm:l.length≤100000000000000):Sp 50 [sA l,sA l] [] (.ak true) []:=by
 have q0:Lo 26 (O Tryz.f50 0) ⟨[(0,sA l),(1,sA l),(5,sI 0)],[]⟩ (.ar 0) ⟨[],[]⟩:=(d6 (S:=fun i=>⟨[(0,sA l),(1,sA l),(5,sI i)],[]⟩) (N:=l.length) (fun i hi=>have q0:=(eY Ar.av (List.getElem?_eq_getElem hi) rfl);au Tryz.f50 2000) (au Tryz.f50 2000))
 exact aK Tryz.f50 2000 26
theorem Ts (l:List Tm) (hsm:l.length≤1000000000000):Sp 171 [.aF (l.map fc) false,.aF (l.map fc) false] [] (.ak true) []:=by
 have q0:Lo 26 (O Tryz.f171 0) ⟨[(0,.aF (l.map fc) false),(1,.aF (l.map fc) false),(5,sI 0)],[]⟩ (.ar 0) ⟨[],[]⟩:=(d6 (S:=fun i=>⟨[(0,.aF (l.map fc) false),(1,.aF (l.map fc) false),(5,sI i)],[]⟩) (N:=l.length) (fun i hi=>have q0:=(eY fc (List.getElem?_eq_getElem hi) rfl);au Tryz.f171 2000) (au Tryz.f171 2000))
 exact aK Tryz.f171 2000 26
theorem Tt (l:List Ex) (hsm:l.length≤1000000000000) (hc:∀y,y∈l→Sp 148 [.al [sJ y.op,.J y.t.v,sJ y.t.k,sI y.t.n,.J y.t.s,sE y.ax],.al [sJ y.op,.J y.t.v,sJ y.t.k,sI y.t.n,.J y.t.s,sE y.ax]] [] (.ak true) []):Sp 191 [sE l,sE l] [] (.ak true) []:=by
 have q0:Lo 27 (O Tryz.f191 0) ⟨[(0,sE l),(1,sE l),(5,sI 0)],[]⟩ (.ar 0) ⟨[],[]⟩:=(d6 (S:=fun i=>⟨[(0,sE l),(1,sE l),(5,sI i)],[]⟩) (N:=l.length) (fun i hi=>have q0:=(eY Ex.av (List.getElem?_eq_getElem hi) (Ex.de _));have q1:=(hc _ (List.getElem_mem hi));au Tryz.f191 2000) (au Tryz.f191 2000))
 exact aK Tryz.f191 2000 27
theorem Tq (x:Ex) (k191:Sp 191 [sE x.ax,sE x.ax] [] (.ak true) []):Sp 148 [.al [sJ x.op,.J x.t.v,sJ x.t.k,sI x.t.n,.J x.t.s,sE x.ax],.al [sJ x.op,.J x.t.v,sJ x.t.k,sI x.t.n,.J x.t.s,sE x.ax]] [] (.ak true) []:=by
 have q0:=k191
 exact aK Tryz.f148 2000 24
inductive rN:Ex→Prop
 |mk (x:Ex) (h:x.ax.length≤1000000000000) (k:∀y,y∈x.ax→rN y):rN x
theorem J':∀x:Ex,rN x→Sp 148 [.al [sJ x.op,.J x.t.v,sJ x.t.k,sI x.t.n,.J x.t.s,sE x.ax],.al [sJ x.op,.J x.t.v,sJ x.t.k,sI x.t.n,.J x.t.s,sE x.ax]] [] (.ak true) []:=Ex.Tl fun x ih h=>by
 cases h with
 |mk _ h k=>exact Tq x (Tt x.ax h fun y hy=>ih y hy (k y hy))
theorem ZB (x:Li) (k20:Sp 20 [.al [.J x.p,sT x.ts],.al [.J x.p,sT x.ts]] [] (.ak true) []) (k148l:Sp 148 [.al [sJ x.l.op,.J x.l.t.v,sJ x.l.t.k,sI x.l.t.n,.J x.l.t.s,sE x.l.ax],.al [sJ x.l.op,.J x.l.t.v,sJ x.l.t.k,sI x.l.t.n,.J x.l.t.s,sE x.l.ax]] [] (.ak true) []) (k148r:Sp 148 [.al [sJ x.r.op,.J x.r.t.v,sJ x.r.t.k,sI x.r.t.n,.J x.r.t.s,sE x.r.ax],.al [sJ x.r.op,.J x.r.t.v,sJ x.r.t.k,sI x.r.t.n,.J x.r.t.s,sE x.r.ax]] [] (.ak true) []):Sp 92 [.al [sJ x.k,.J x.p,sT x.ts,sJ x.jR,sJ x.l.op,.J x.l.t.v,sJ x.l.t.k,sI x.l.t.n,.J x.l.t.s,sE x.l.ax,sJ x.r.op,.J x.r.t.v,sJ x.r.t.k,sI x.r.t.n,.J x.r.t.s,sE x.r.ax],.al [sJ x.k,.J x.p,sT x.ts,sJ x.jR,sJ x.l.op,.J x.l.t.v,sJ x.l.t.k,sI x.l.t.n,.J x.l.t.s,sE x.l.ax,sJ x.r.op,.J x.r.t.v,sJ x.r.t.k,sI x.r.t.n,.J x.r.t.s,sE x.r.ax]] [] (.ak true) []:=by
 have q0:=k20
 have q1:=k148l
 have q2:=k148r
 exact aK Tryz.f92 2000 38
structure ZC (x:Li):Prop where
 ts:x.ts.length<1000000000000
 l:rN x.l
 r:rN x.r
theorem ZA (x:Li) (h:ZC x):Sp 92 [x.av,x.av] [] (.ak true) []:=ZB x (k20 x.p x.ts h.ts) (J' x.l h.l) (J' x.r h.r)
theorem Tr (l:List Li) (hsm:l.length≤1000000000000) (hc:∀y,y∈l→Sp 92 [y.av,y.av] [] (.ak true) []):Sp 170 [sL l,sL l] [] (.ak true) []:=by
 have q0:Lo 27 (O Tryz.f170 0) ⟨[(0,sL l),(1,sL l),(5,sI 0)],[]⟩ (.ar 0) ⟨[],[]⟩:=(d6 (S:=fun i=>⟨[(0,sL l),(1,sL l),(5,sI i)],[]⟩) (N:=l.length) (fun i hi=>have q0:=(eY Li.av (List.getElem?_eq_getElem hi) rfl);have q1:=(hc _ (List.getElem_mem hi));au Tryz.f170 2000) (au Tryz.f170 2000))
 exact aK Tryz.f170 2000 27
theorem To (x:Ru) (k50:Sp 50 [sA x.hd,sA x.hd] [] (.ak true) []) (k170:Sp 170 [sL x.bd,sL x.bd] [] (.ak true) []):Sp 116 [.al [.J x.p,sA x.hd,sL x.bd],.al [.J x.p,sA x.hd,sL x.bd]] [] (.ak true) []:=by
 have q0:=k50
 have q1:=k170
 exact aK Tryz.f116 2000 24
structure Tv (x:Ru):Prop where
 hd:x.hd.length≤100000000000000
 bd:x.bd.length≤1000000000000
 li:∀y,y∈x.bd→ZC y
theorem Tn (x:Ru) (h:Tv x):Sp 116 [x.av,x.av] [] (.ak true) []:=To x (Tu x.hd h.hd) (Tr x.bd h.bd fun y hy=>ZA y (h.li y hy))
theorem Zy (l:List Ru) (hsm:l.length≤1000000000000) (hc:∀y,y∈l→Sp 116 [y.av,y.av] [] (.ak true) []):Sp 66 [sR l,sR l] [] (.ak true) []:=by
 have q0:Lo 27 (O Tryz.f66 0) ⟨[(0,sR l),(1,sR l),(5,sI 0)],[]⟩ (.ar 0) ⟨[],[]⟩:=(d6 (S:=fun i=>⟨[(0,sR l),(1,sR l),(5,sI i)],[]⟩) (N:=l.length) (fun i hi=>have q0:=(eY Ru.av (List.getElem?_eq_getElem hi) rfl);have q1:=(hc _ (List.getElem_mem hi));au Tryz.f66 2000) (au Tryz.f66 2000))
 exact aK Tryz.f66 2000 27
theorem Tp (x:Fa) (k171:Sp 171 [.aF (x.2.map fc) false,.aF (x.2.map fc) false] [] (.ak true) []):Sp 117 [.al [.J x.1,.aF (x.2.map fc) false],.al [.J x.1,.aF (x.2.map fc) false]] [] (.ak true) []:=by
 have q0:=k171
 exact aK Tryz.f117 2000 17
theorem Zz (l:List Fa) (hsm:l.length≤1000000000000) (hc:∀y,y∈l→Sp 117 [.al [.J y.1,.aF (y.2.map fc) false],.al [.J y.1,.aF (y.2.map fc) false]] [] (.ak true) []):Sp 67 [.aF (l.map B0) false,.aF (l.map B0) false] [] (.ak true) []:=by
 have q0:Lo 27 (O Tryz.f67 0) ⟨[(0,.aF (l.map B0) false),(1,.aF (l.map B0) false),(5,sI 0)],[]⟩ (.ar 0) ⟨[],[]⟩:=(d6 (S:=fun i=>⟨[(0,.aF (l.map B0) false),(1,.aF (l.map B0) false),(5,sI i)],[]⟩) (N:=l.length) (fun i hi=>have q0:=(eY B0 (List.getElem?_eq_getElem hi) rfl);have q1:=(hc _ (List.getElem_mem hi));au Tryz.f67 2000) (au Tryz.f67 2000))
 exact aK Tryz.f67 2000 27
theorem Zx (R:List Ru) (p:ByteArray) (ts:List Tm) (fs:List Fa) (k66:Sp 66 [sR R,sR R] [] (.ak true) []) (k20:Sp 20 [.al [.J p,sT ts],.al [.J p,sT ts]] [] (.ak true) []) (k67:Sp 67 [.aF (fs.map B0) false,.aF (fs.map B0) false] [] (.ak true) []):Sp 32 [.al [sR R,.J p,sT ts,.aF (fs.map B0) false],.al [sR R,.J p,sT ts,.aF (fs.map B0) false]] [] (.ak true) []:=by
 have q0:=k66
 have q1:=k20
 have q2:=k67
 exact aK Tryz.f32 2000 24
theorem ND (R:List Ru) (p:ByteArray) (ts:List Tm) (fs:List Fa) (h1:R.length≤1000000000000) (h2:∀r,r∈R→Tv r) (h3:ts.length<1000000000000) (h4:fs.length≤1000000000000) (h5:∀f,f∈fs→f.2.length≤1000000000000):Sp 32 [.al [sR R,.J p,sT ts,.aF (fs.map B0) false],.al [sR R,.J p,sT ts,.aF (fs.map B0) false]] [] (.ak true) []:=
 Zx R p ts fs (Zy R h1 fun r hr=>Tn r (h2 r hr)) (k20 p ts h3) (Zz fs h4 fun f hf=>Tp f (Ts f.2 (h5 f hf)))
section
variable (l:List Tm) (i:Nat) (zs:List AV) (x:Ex) (zs':List AV)
theorem dM:Sp 72 [sI 777777] [] (.J xY) []:=by
 have o:=kU 777777 (by omega) (by omega)
 rw [show (Lib.itoa 777777).toArray= #[55,55,55,55,55,55] by kernel_rfl] at o
 exact aK Tryz.f72 2000 6
abbrev pK:AV:= .al [sJ 0,.J xY,sJ 0,sI 0,.J ⟨#[]⟩]
abbrev fY:AV:= .al [sJ 99,.J xY,sJ 0,sI 0,.J ⟨#[]⟩,.ab]
abbrev pi:AV:= .al [sJ 99,.J xY,.ab,sJ 0,sJ 0,.J ⟨#[]⟩,sJ 0,sI 0,.J ⟨#[]⟩,.ab,sJ 0,.J ⟨#[]⟩,sJ 0,sI 0,.J ⟨#[]⟩,.ab]
abbrev pt:AV:= .al [.J xY,.ab,.ab]
abbrev ju:AV:= .al [.J xY,sJ 0,sI 0,.J ⟨#[]⟩]
abbrev vl:Nat×AV:=(2,.aA 2002 0 0)
theorem ZF (k72:Sp 72 [sI 777777] [] (.J xY) []):En 6 (ai Tryz.f61) ⟨[(0,sI 777777)],[]⟩ (fun e t=>e= .aR∧t=⟨[vl],[(2002,.an pt.ac)]⟩):=au Tryz.f61 2000
theorem ZN:Sp 61 [sI 777777] [] pt []:=by
 obtain ⟨_,_,⟨rfl,rfl⟩,r⟩:=ZF dM
 exact sQ Tryz.f61 r
theorem Tw (k72:Sp 72 [sI 777777] [] (.J xY) []):En 7 (ai Tryz.f165) ⟨[(0,sI 777777)],[]⟩ (fun e t=>e= .aR∧t=⟨[vl],[(2002,.an pK.ac)]⟩):=au Tryz.f165 2000
theorem TJ:Sp 165 [sI 777777] [] pK []:=by
 obtain ⟨_,_,⟨rfl,rfl⟩,r⟩:=Tw dM
 exact sQ Tryz.f165 r
theorem Ty (k72:Sp 72 [sI 777777] [] (.J xY) []):En 7 (ai Tryz.f167) ⟨[(0,sI 777777)],[]⟩ (fun e t=>e= .aR∧t=⟨[vl],[(2002,.an pi.ac)]⟩):=au Tryz.f167 2000
theorem TM:Sp 167 [sI 777777] [] pi []:=by
 obtain ⟨_,_,⟨rfl,rfl⟩,r⟩:=Ty dM
 exact sQ Tryz.f167 r
theorem TC (k72:Sp 72 [sI 777777] [] (.J xY) []):En 7 (ai Tryz.f274) ⟨[(0,sI 777777)],[]⟩ (fun e t=>e= .aR∧t=⟨[vl],[(2002,.an fY.ac)]⟩):=au Tryz.f274 2000
theorem TR:Sp 274 [sI 777777] [] fY []:=by
 obtain ⟨_,_,⟨rfl,rfl⟩,r⟩:=TC dM
 exact sQ Tryz.f274 r
abbrev ZD:Nat×AV:=(4,.ak true)
abbrev IR:St:=⟨[ZD],[]⟩
theorem ZG (k72:Sp 72 [sI 777777] [] (.J xY) []):En 22 (ai Tryz.f69) ⟨[(0,pt),(1,sI 777777)],[]⟩ (fun e t=>e= .aR∧t=IR):=au Tryz.f69 2000
theorem ZO:Sp 69 [pt,sI 777777] [] (.ak true) []:=by
 obtain ⟨_,_,⟨rfl,rfl⟩,r⟩:=ZG dM
 exact sQ Tryz.f69 r
theorem Tz (k72:Sp 72 [sI 777777] [] (.J xY) []):En 11 (ai Tryz.f172) ⟨[(0,pK),(1,sI 777777)],[]⟩ (fun e t=>e= .aR∧t=IR):=au Tryz.f172 2000
theorem TN:Sp 172 [pK,sI 777777] [] (.ak true) []:=by
 obtain ⟨_,_,⟨rfl,rfl⟩,r⟩:=Tz dM
 exact sQ Tryz.f172 r
theorem TA (k72:Sp 72 [sI 777777] [] (.J xY) []):En 23 (ai Tryz.f174) ⟨[(0,pi),(1,sI 777777)],[]⟩ (fun e t=>e= .aR∧t=IR):=au Tryz.f174 2000
theorem TO:Sp 174 [pi,sI 777777] [] (.ak true) []:=by
 obtain ⟨_,_,⟨rfl,rfl⟩,r⟩:=TA dM
 exact sQ Tryz.f174 r
theorem TD (k72:Sp 72 [sI 777777] [] (.J xY) []):En 22 (ai Tryz.f275) ⟨[(0,fY),(1,sI 777777)],[]⟩ (fun e t=>e= .aR∧t=IR):=au Tryz.f275 2000
theorem TS:Sp 275 [fY,sI 777777] [] (.ak true) []:=by
 obtain ⟨_,_,⟨rfl,rfl⟩,r⟩:=TD dM
 exact sQ Tryz.f275 r
theorem ZH (k72:Sp 72 [sI 777777] [] (.J xY) []):En 6 (ai Tryz.f71) ⟨[(0,sI 777777)],[]⟩ (fun e t=>e= .aR∧t=⟨[vl],[(2002,.an ju.ac)]⟩):=au Tryz.f71 2000
theorem ZP:Sp 71 [sI 777777] [] ju []:=by
 obtain ⟨_,_,⟨rfl,rfl⟩,r⟩:=ZH dM
 exact sQ Tryz.f71 r
theorem ZQ:Sp 74 [ju,sI 777777] [] (.ak true) []:=by
 have o:=dM
 exact aK Tryz.f74 2000 10
abbrev yT:Nat×AV:=(3,.aw 2008 0 (l.length+1))
theorem ZT (y:Tm) (zs zs':List AV) (hi:i<l.length) (hsm:l.length≤2932031007317) (hl:zs.length=l.length+1) (hx:0≤(i:Int)∧(l.map Tm.av)[Int.toNat (i:Int)]? =some (y.av)) (hs:zs.set (0+Int.toNat (i:Int)) (.al [.J y.v,sJ y.k,sI y.n,.J y.s])=zs') (hn:aa zs'=true):EN 31 (O Tryz.f35 0) ⟨[(0,sT l),yT l,(4,sI i)],[(2008,.aw 4 (zs))]⟩ ⟨[(0,sT l),yT l,(4,sI ((i+1:Nat):Int))],[(2008,.aw 4 (zs'))]⟩:=au Tryz.f35 2000
theorem ZJ (hn:aa zs=true):En 31 (O Tryz.f35 0) ⟨[(0,sT l),yT l,(4,sI (l.length:Nat))],[(2008,.aw 4 (zs))]⟩ (fun e t=>e= .ar 0∧t=⟨[(0,sT l),yT l],[(2008,.aw 4 zs)]⟩):=au Tryz.f35 2000
theorem TT (hsm:l.length≤2932031007317):Sp 35 [sT l] [] (.aQ (l.map Tm.av) [ju]) []:=by
 have hno:∀i,aa ((l.take i).map Tm.av++List.replicate (l.length+1-i) (AV.al [.J ⟨#[]⟩,sJ 0,sI 0,.J ⟨#[]⟩]))=true:=fun i=>a8.2 fun x hx=>by
  rcases List.mem_append.1 hx with h|h
  ·obtain ⟨y,_,rfl⟩:=List.mem_map.1 h;exact vV y
  ·rw [(List.mem_replicate.1 h).2];rfl
 have hT:∀y:Tm,Tm.av y= .al [.J y.v,sJ y.k,sI y.n,.J y.s]:=fun y=>rfl
 have lq:=bJ.rX (P:=Tryz.prog) (n:=31) (c:=O Tryz.f35 0) (st:=fun i=>⟨[(0,sT l),yT l,(4,sI i)],[(2008,.aw 4 ((l.take i).map Tm.av++List.replicate (l.length+1-i) (.al [.J ⟨#[]⟩,sJ 0,sI 0,.J ⟨#[]⟩])))]⟩) (N:=l.length) (fun i hi=>by
  have h1:l[i]? =some l[i]:=List.getElem?_eq_getElem hi
  have hs:((l.take i).map Tm.av++List.replicate (l.length+1-i) (AV.al [.J ⟨#[]⟩,sJ 0,sI 0,.J ⟨#[]⟩])).set (0+Int.toNat (i:Int)) (Tm.av l[i])=(l.take (i+1)).map Tm.av++List.replicate (l.length+1-(i+1)) (AV.al [.J ⟨#[]⟩,sJ 0,sI 0,.J ⟨#[]⟩]):=by
   have e1:l.length+1-i=(l.length+1-(i+1))+1:=by omega
   rw [Nat.zero_add,Int.toNat_natCast,e1]
   exact iO Tm.av _ h1
  rw [hT] at hs
  obtain ⟨_,_,⟨rfl,rfl⟩,r⟩:=ZT l i l[i] _ _ hi hsm (by simp only [List.length_append,List.length_map,List.length_take,List.length_replicate];omega) (eY Tm.av h1 rfl) hs (hno _)
  exact r) (by obtain ⟨_,_,⟨rfl,rfl⟩,r⟩:=ZJ l _ (hno l.length);exact .bD r (by simp))
 have q0:((l.take l.length).map Tm.av++List.replicate (l.length+1-l.length) (AV.al [.J ⟨#[]⟩,sJ 0,sI 0,.J ⟨#[]⟩])).length=l.length+1:=(by simp)
 have q1:((l.take l.length).map Tm.av++List.replicate (l.length+1-l.length) (AV.al [.J ⟨#[]⟩,sJ 0,sI 0,.J ⟨#[]⟩])).set (0+Int.toNat ((l.map Tm.av).length:Nat)) ju=l.map Tm.av++[ju]:=(by rw [Nat.zero_add,Int.toNat_natCast,List.length_map,List.take_length,show l.length+1-l.length=1 by omega,List.set_append_right _ _ (by simp)];simp)
 have q2:=ZP
 have q3:Lo 31 (O Tryz.f35 0) ⟨[(0,sT l),yT l,(4,sI 0)],[(2008,.aw 4 (List.replicate (l.length+1) (.al [.J ⟨#[]⟩,sJ 0,sI 0,.J ⟨#[]⟩])))]⟩ (.ar 0) ⟨[(0,sT l),yT l],[(2008,.aw 4 ((l.take l.length).map Tm.av++List.replicate (l.length+1-l.length) (.al [.J ⟨#[]⟩,sJ 0,sI 0,.J ⟨#[]⟩])))]⟩:=(by simpa using lq)
 exact aK Tryz.f35 2000 31
theorem TU (l:List Ar) (i:Nat) (y:Ar) (zs zs':List AV) (hi:i<l.length) (hsm:l.length≤2513169434843) (hl:zs.length=l.length+1) (hx:0≤(i:Int)∧(l.map Ar.av)[Int.toNat (i:Int)]? =some (y.av)) (hs:zs.set (0+Int.toNat (i:Int)) (.al [sJ y.g,.J y.t.v,sJ y.t.k,sI y.t.n,.J y.t.s])=zs') (hn:aa zs'=true):EN 31 (O Tryz.f111 0) ⟨[(0,sA l),(3,.aw 2008 0 (l.length+1)),(4,sI i)],[(2008,.aw 5 (zs))]⟩ ⟨[(0,sA l),(3,.aw 2008 0 (l.length+1)),(4,sI ((i+1:Nat):Int))],[(2008,.aw 5 (zs'))]⟩:=au Tryz.f111 2000
theorem TE (l:List Ar) (zs:List AV) (hn:aa zs=true):En 31 (O Tryz.f111 0) ⟨[(0,sA l),(3,.aw 2008 0 (l.length+1)),(4,sI (l.length:Nat))],[(2008,.aw 5 (zs))]⟩ (fun e t=>e= .ar 0∧t=⟨[(0,sA l),(3,.aw 2008 0 (l.length+1))],[(2008,.aw 5 zs)]⟩):=au Tryz.f111 2000
theorem TH (l:List Ar) (hsm:l.length≤2513169434843):Sp 111 [sA l] [] (.aQ (l.map Ar.av) [pK]) []:=by
 have hno:∀i,aa ((l.take i).map Ar.av++List.replicate (l.length+1-i) (AV.al [sJ 0,.J ⟨#[]⟩,sJ 0,sI 0,.J ⟨#[]⟩]))=true:=fun i=>a8.2 fun x hx=>by
  rcases List.mem_append.1 hx with h|h
  ·obtain ⟨y,_,rfl⟩:=List.mem_map.1 h;exact vU y
  ·rw [(List.mem_replicate.1 h).2];rfl
 have hT:∀y:Ar,Ar.av y= .al [sJ y.g,.J y.t.v,sJ y.t.k,sI y.t.n,.J y.t.s]:=fun y=>rfl
 have lq:=bJ.rX (P:=Tryz.prog) (n:=31) (c:=O Tryz.f111 0) (st:=fun i=>⟨[(0,sA l),(3,.aw 2008 0 (l.length+1)),(4,sI i)],[(2008,.aw 5 ((l.take i).map Ar.av++List.replicate (l.length+1-i) (.al [sJ 0,.J ⟨#[]⟩,sJ 0,sI 0,.J ⟨#[]⟩])))]⟩) (N:=l.length) (fun i hi=>by
  have h1:l[i]? =some l[i]:=List.getElem?_eq_getElem hi
  have hs:((l.take i).map Ar.av++List.replicate (l.length+1-i) (AV.al [sJ 0,.J ⟨#[]⟩,sJ 0,sI 0,.J ⟨#[]⟩])).set (0+Int.toNat (i:Int)) (Ar.av l[i])=(l.take (i+1)).map Ar.av++List.replicate (l.length+1-(i+1)) (AV.al [sJ 0,.J ⟨#[]⟩,sJ 0,sI 0,.J ⟨#[]⟩]):=by
   have e1:l.length+1-i=(l.length+1-(i+1))+1:=by omega
   rw [Nat.zero_add,Int.toNat_natCast,e1]
   exact iO Ar.av _ h1
  rw [hT] at hs
  obtain ⟨_,_,⟨rfl,rfl⟩,r⟩:=TU l i l[i] _ _ hi hsm (by simp only [List.length_append,List.length_map,List.length_take,List.length_replicate];omega) (eY Ar.av h1 rfl) hs (hno _)
  exact r) (by obtain ⟨_,_,⟨rfl,rfl⟩,r⟩:=TE l _ (hno l.length);exact .bD r (by simp))
 have q0:((l.take l.length).map Ar.av++List.replicate (l.length+1-l.length) (AV.al [sJ 0,.J ⟨#[]⟩,sJ 0,sI 0,.J ⟨#[]⟩])).length=l.length+1:=(by simp)
 have q1:((l.take l.length).map Ar.av++List.replicate (l.length+1-l.length) (AV.al [sJ 0,.J ⟨#[]⟩,sJ 0,sI 0,.J ⟨#[]⟩])).set (0+Int.toNat ((l.map Ar.av).length:Nat)) pK=l.map Ar.av++[pK]:=(by rw [Nat.zero_add,Int.toNat_natCast,List.length_map,List.take_length,show l.length+1-l.length=1 by omega,List.set_append_right _ _ (by simp)];simp)
 have q2:=TJ
 have q3:Lo 31 (O Tryz.f111 0) ⟨[(0,sA l),(3,.aw 2008 0 (l.length+1)),(4,sI 0)],[(2008,.aw 5 (List.replicate (l.length+1) (.al [sJ 0,.J ⟨#[]⟩,sJ 0,sI 0,.J ⟨#[]⟩])))]⟩ (.ar 0) ⟨[(0,sA l),(3,.aw 2008 0 (l.length+1))],[(2008,.aw 5 ((l.take l.length).map Ar.av++List.replicate (l.length+1-l.length) (.al [sJ 0,.J ⟨#[]⟩,sJ 0,sI 0,.J ⟨#[]⟩])))]⟩:=(by simpa using lq)
 exact aK Tryz.f111 2000 31
mutual
def eg:Ex→AV
 | .mk o t k=> .al [sJ o,.J t.v,sJ t.k,sI t.n,.J t.s,.aQ (IT k) [fY]]
def IT:List Ex→List AV
 |[]=>[]
 |e::r=>eg e::IT r
end
theorem xj:∀l:List Ex,IT l=l.map eg
 |[]=>rfl
 |e::r=>by simp only [IT,List.map_cons,xj r]
theorem vm:eg x= .al [sJ x.op,.J x.t.v,sJ x.t.k,sI x.t.n,.J x.t.s,.aQ (x.ax.map eg) [fY]]:=by
 cases x with
 |mk o t k=>simp only [eg,xj];rfl
theorem tM:aJ (eg x)=true:=by rw [vm];rfl
@[simp] theorem NE (l:List Ex):aa (l.map eg)=true:=bI eg tM l
def jD (x:Li):AV:= .al [sJ x.k,.J x.p,.aQ (x.ts.map Tm.av) [ju],sJ x.jR,sJ x.l.op,.J x.l.t.v,sJ x.l.t.k,sI x.l.t.n,.J x.l.t.s,.aQ (x.l.ax.map eg) [fY],sJ x.r.op,.J x.r.t.v,sJ x.r.t.k,sI x.r.t.n,.J x.r.t.s,.aQ (x.r.ax.map eg) [fY]]
theorem tN (x:Li):aJ (jD x)=true:=rfl
@[simp] theorem NF (l:List Li):aa (l.map jD)=true:=bI jD tN l
def jQ (x:Ru):AV:= .al [.J x.p,.aQ (x.hd.map Ar.av) [pK],.aQ (x.bd.map jD) [pi]]
theorem tO (x:Ru):aJ (jQ x)=true:=rfl
@[simp] theorem NG (l:List Ru):aa (l.map jQ)=true:=bI jQ tO l
theorem TB (k246:Sp 246 [sE x.ax] [] (.aQ (x.ax.map eg) [fY]) []):En 8 (ai Tryz.f206) ⟨[(0,.al [sJ x.op,.J x.t.v,sJ x.t.k,sI x.t.n,.J x.t.s,sE x.ax])],[]⟩ (fun e t=>e= .aR∧t=⟨[vl],[(2002,.an [sJ x.op,.J x.t.v,sJ x.t.k,sI x.t.n,.J x.t.s,.aQ (x.ax.map eg) [fY]])]⟩):=au Tryz.f206 2000
theorem TP (k246:Sp 246 [sE x.ax] [] (.aQ (x.ax.map eg) [fY]) []):Sp 206 [.al [sJ x.op,.J x.t.v,sJ x.t.k,sI x.t.n,.J x.t.s,sE x.ax]] [] (.al [sJ x.op,.J x.t.v,sJ x.t.k,sI x.t.n,.J x.t.s,.aQ (x.ax.map eg) [fY]]) []:=by
 obtain ⟨_,_,⟨rfl,rfl⟩,r⟩:=TB x k246
 exact sP Tryz.f206 (by simp [aa,aJ]) r (.inr rfl)
theorem TW (l:List Ex) (i:Nat) (y:Ex) (zs zs':List AV) (hi:i<l.length) (hsm:l.length≤1759218604390) (hl:zs.length=l.length+1) (hx:0≤(i:Int)∧(l.map Ex.av)[Int.toNat (i:Int)]? =some (.al [sJ y.op,.J y.t.v,sJ y.t.k,sI y.t.n,.J y.t.s,sE y.ax])) (hs:zs.set (0+Int.toNat (i:Int)) (.al [sJ y.op,.J y.t.v,sJ y.t.k,sI y.t.n,.J y.t.s,.aQ (y.ax.map eg) [fY]])=zs') (hn:aa zs'=true) (kc:Sp 206 [.al [sJ y.op,.J y.t.v,sJ y.t.k,sI y.t.n,.J y.t.s,sE y.ax]] [] (.al [sJ y.op,.J y.t.v,sJ y.t.k,sI y.t.n,.J y.t.s,.aQ (y.ax.map eg) [fY]]) []):EN 32 (O Tryz.f246 0) ⟨[(0,sE l),(3,.aw 2008 0 (l.length+1)),(4,sI i)],[(2008,.aw 6 (zs))]⟩ ⟨[(0,sE l),(3,.aw 2008 0 (l.length+1)),(4,sI ((i+1:Nat):Int))],[(2008,.aw 6 (zs'))]⟩:=au Tryz.f246 2000
theorem TG (l:List Ex) (zs:List AV) (hn:aa zs=true):En 32 (O Tryz.f246 0) ⟨[(0,sE l),(3,.aw 2008 0 (l.length+1)),(4,sI (l.length:Nat))],[(2008,.aw 6 (zs))]⟩ (fun e t=>e= .ar 0∧t=⟨[(0,sE l),(3,.aw 2008 0 (l.length+1))],[(2008,.aw 6 zs)]⟩):=au Tryz.f246 2000
theorem TQ (l:List Ex) (hsm:l.length≤1759218604390) (hc:∀y,y∈l→Sp 206 [.al [sJ y.op,.J y.t.v,sJ y.t.k,sI y.t.n,.J y.t.s,sE y.ax]] [] (.al [sJ y.op,.J y.t.v,sJ y.t.k,sI y.t.n,.J y.t.s,.aQ (y.ax.map eg) [fY]]) []):Sp 246 [sE l] [] (.aQ (l.map eg) [fY]) []:=by
 have hno:∀i,aa ((l.take i).map eg++List.replicate (l.length+1-i) (AV.al [sJ 0,.J ⟨#[]⟩,sJ 0,sI 0,.J ⟨#[]⟩,.ab]))=true:=fun i=>a8.2 fun x hx=>by
  rcases List.mem_append.1 hx with h|h
  ·obtain ⟨y,_,rfl⟩:=List.mem_map.1 h;exact tM y
  ·rw [(List.mem_replicate.1 h).2];rfl
 have hT:∀y:Ex,eg y= .al [sJ y.op,.J y.t.v,sJ y.t.k,sI y.t.n,.J y.t.s,.aQ (y.ax.map eg) [fY]]:=fun y=>vm y
 have lq:=bJ.rX (P:=Tryz.prog) (n:=32) (c:=O Tryz.f246 0) (st:=fun i=>⟨[(0,sE l),(3,.aw 2008 0 (l.length+1)),(4,sI i)],[(2008,.aw 6 ((l.take i).map eg++List.replicate (l.length+1-i) (.al [sJ 0,.J ⟨#[]⟩,sJ 0,sI 0,.J ⟨#[]⟩,.ab])))]⟩) (N:=l.length) (fun i hi=>by
  have h1:l[i]? =some l[i]:=List.getElem?_eq_getElem hi
  have hs:((l.take i).map eg++List.replicate (l.length+1-i) (AV.al [sJ 0,.J ⟨#[]⟩,sJ 0,sI 0,.J ⟨#[]⟩,.ab])).set (0+Int.toNat (i:Int)) (eg l[i])=(l.take (i+1)).map eg++List.replicate (l.length+1-(i+1)) (AV.al [sJ 0,.J ⟨#[]⟩,sJ 0,sI 0,.J ⟨#[]⟩,.ab]):=by
   have e1:l.length+1-i=(l.length+1-(i+1))+1:=by omega
   rw [Nat.zero_add,Int.toNat_natCast,e1]
   exact iO eg _ h1
  rw [hT] at hs
  obtain ⟨_,_,⟨rfl,rfl⟩,r⟩:=TW l i l[i] _ _ hi hsm (by simp only [List.length_append,List.length_map,List.length_take,List.length_replicate];omega) (eY Ex.av h1 (Ex.de _)) hs (hno _) (hc _ (List.getElem_mem hi))
  exact r) (by obtain ⟨_,_,⟨rfl,rfl⟩,r⟩:=TG l _ (hno l.length);exact .bD r (by simp))
 have q0:((l.take l.length).map eg++List.replicate (l.length+1-l.length) (AV.al [sJ 0,.J ⟨#[]⟩,sJ 0,sI 0,.J ⟨#[]⟩,.ab])).length=l.length+1:=(by simp)
 have q1:((l.take l.length).map eg++List.replicate (l.length+1-l.length) (AV.al [sJ 0,.J ⟨#[]⟩,sJ 0,sI 0,.J ⟨#[]⟩,.ab])).set (0+Int.toNat ((l.map Ex.av).length:Nat)) fY=l.map eg++[fY]:=(by rw [Nat.zero_add,Int.toNat_natCast,List.length_map,List.take_length,show l.length+1-l.length=1 by omega,List.set_append_right _ _ (by simp)];simp)
 have q2:=TR
 have q3:Lo 32 (O Tryz.f246 0) ⟨[(0,sE l),(3,.aw 2008 0 (l.length+1)),(4,sI 0)],[(2008,.aw 6 (List.replicate (l.length+1) (.al [sJ 0,.J ⟨#[]⟩,sJ 0,sI 0,.J ⟨#[]⟩,.ab])))]⟩ (.ar 0) ⟨[(0,sE l),(3,.aw 2008 0 (l.length+1))],[(2008,.aw 6 ((l.take l.length).map eg++List.replicate (l.length+1-l.length) (.al [sJ 0,.J ⟨#[]⟩,sJ 0,sI 0,.J ⟨#[]⟩,.ab])))]⟩:=(by simpa using lq)
 exact aK Tryz.f246 2000 32
inductive rO:Ex→Prop
 |mk (x:Ex) (h:x.ax.length≤1759218604390) (k:∀y,y∈x.ax→rO y):rO x
theorem Ka:∀x:Ex,rO x→Sp 206 [.al [sJ x.op,.J x.t.v,sJ x.t.k,sI x.t.n,.J x.t.s,sE x.ax]] [] (.al [sJ x.op,.J x.t.v,sJ x.t.k,sI x.t.n,.J x.t.s,.aQ (x.ax.map eg) [fY]]) []:=Ex.Tl fun x ih h=>by
 cases h with
 |mk _ h k=>exact TP x (TQ x.ax h fun y hy=>ih y hy (k y hy))
theorem b8t (p:ByteArray) (ts:List Tm) (k35:Sp 35 [sT ts] [] (.aQ (ts.map Tm.av) [ju]) []):En 8 (ai Tryz.f8) ⟨[(0,.al [.J p,sT ts])],[]⟩ (fun e t=>e= .aR∧t=⟨[vl],[(2002,.an [.J p,.aQ (ts.map Tm.av) [ju]])]⟩):=au Tryz.f8 2000
theorem k8t (p:ByteArray) (ts:List Tm) (k35:Sp 35 [sT ts] [] (.aQ (ts.map Tm.av) [ju]) []):Sp 8 [.al [.J p,sT ts]] [] (.al [.J p,.aQ (ts.map Tm.av) [ju]]) []:=by
 obtain ⟨_,_,⟨rfl,rfl⟩,r⟩:=b8t p ts k35
 exact sP Tryz.f8 (by simp [aa,aJ]) r (.inr rfl)
theorem Tx (x:Li) (k8:Sp 8 [.al [.J x.p,sT x.ts]] [] (.al [.J x.p,.aQ (x.ts.map Tm.av) [ju]]) []) (k206l:Sp 206 [.al [sJ x.l.op,.J x.l.t.v,sJ x.l.t.k,sI x.l.t.n,.J x.l.t.s,sE x.l.ax]] [] (.al [sJ x.l.op,.J x.l.t.v,sJ x.l.t.k,sI x.l.t.n,.J x.l.t.s,.aQ (x.l.ax.map eg) [fY]]) []) (k206r:Sp 206 [.al [sJ x.r.op,.J x.r.t.v,sJ x.r.t.k,sI x.r.t.n,.J x.r.t.s,sE x.r.ax]] [] (.al [sJ x.r.op,.J x.r.t.v,sJ x.r.t.k,sI x.r.t.n,.J x.r.t.s,.aQ (x.r.ax.map eg) [fY]]) []):En 16 (ai Tryz.f166) ⟨[(0,.al [sJ x.k,.J x.p,sT x.ts,sJ x.jR,sJ x.l.op,.J x.l.t.v,sJ x.l.t.k,sI x.l.t.n,.J x.l.t.s,sE x.l.ax,sJ x.r.op,.J x.r.t.v,sJ x.r.t.k,sI x.r.t.n,.J x.r.t.s,sE x.r.ax])],[]⟩ (fun e t=>e= .aR∧t=⟨[vl],[(2002,.an [sJ x.k,.J x.p,.aQ (x.ts.map Tm.av) [ju],sJ x.jR,sJ x.l.op,.J x.l.t.v,sJ x.l.t.k,sI x.l.t.n,.J x.l.t.s,.aQ (x.l.ax.map eg) [fY],sJ x.r.op,.J x.r.t.v,sJ x.r.t.k,sI x.r.t.n,.J x.r.t.s,.aQ (x.r.ax.map eg) [fY]])]⟩):=au Tryz.f166 2000
theorem TL (x:Li) (k8:Sp 8 [.al [.J x.p,sT x.ts]] [] (.al [.J x.p,.aQ (x.ts.map Tm.av) [ju]]) []) (k206l:Sp 206 [.al [sJ x.l.op,.J x.l.t.v,sJ x.l.t.k,sI x.l.t.n,.J x.l.t.s,sE x.l.ax]] [] (.al [sJ x.l.op,.J x.l.t.v,sJ x.l.t.k,sI x.l.t.n,.J x.l.t.s,.aQ (x.l.ax.map eg) [fY]]) []) (k206r:Sp 206 [.al [sJ x.r.op,.J x.r.t.v,sJ x.r.t.k,sI x.r.t.n,.J x.r.t.s,sE x.r.ax]] [] (.al [sJ x.r.op,.J x.r.t.v,sJ x.r.t.k,sI x.r.t.n,.J x.r.t.s,.aQ (x.r.ax.map eg) [fY]]) []):Sp 166 [.al [sJ x.k,.J x.p,sT x.ts,sJ x.jR,sJ x.l.op,.J x.l.t.v,sJ x.l.t.k,sI x.l.t.n,.J x.l.t.s,sE x.l.ax,sJ x.r.op,.J x.r.t.v,sJ x.r.t.k,sI x.r.t.n,.J x.r.t.s,sE x.r.ax]] [] (.al [sJ x.k,.J x.p,.aQ (x.ts.map Tm.av) [ju],sJ x.jR,sJ x.l.op,.J x.l.t.v,sJ x.l.t.k,sI x.l.t.n,.J x.l.t.s,.aQ (x.l.ax.map eg) [fY],sJ x.r.op,.J x.r.t.v,sJ x.r.t.k,sI x.r.t.n,.J x.r.t.s,.aQ (x.r.ax.map eg) [fY]]) []:=by
 obtain ⟨_,_,⟨rfl,rfl⟩,r⟩:=Tx x k8 k206l k206r
 exact sP Tryz.f166 (by simp [aa,aJ]) r (.inr rfl)
structure ZR (x:Li):Prop where
 ts:x.ts.length≤2932031007317
 l:rO x.l
 r:rO x.r
theorem TK (x:Li) (h:ZR x):Sp 166 [x.av] [] (jD x) []:=TL x (k8t x.p x.ts (TT x.ts h.ts)) (Ka x.l h.l) (Ka x.r h.r)
theorem TV (l:List Li) (i:Nat) (y:Li) (zs zs':List AV) (hi:i<l.length) (hsm:l.length≤651562446070) (hl:zs.length=l.length+1) (hx:0≤(i:Int)∧(l.map Li.av)[Int.toNat (i:Int)]? =some (y.av)) (hs:zs.set (0+Int.toNat (i:Int)) (.al [sJ y.k,.J y.p,.aQ (y.ts.map Tm.av) [ju],sJ y.jR,sJ y.l.op,.J y.l.t.v,sJ y.l.t.k,sI y.l.t.n,.J y.l.t.s,.aQ (y.l.ax.map eg) [fY],sJ y.r.op,.J y.r.t.v,sJ y.r.t.k,sI y.r.t.n,.J y.r.t.s,.aQ (y.r.ax.map eg) [fY]])=zs') (hn:aa zs'=true) (kc:Sp 166 [y.av] [] (.al [sJ y.k,.J y.p,.aQ (y.ts.map Tm.av) [ju],sJ y.jR,sJ y.l.op,.J y.l.t.v,sJ y.l.t.k,sI y.l.t.n,.J y.l.t.s,.aQ (y.l.ax.map eg) [fY],sJ y.r.op,.J y.r.t.v,sJ y.r.t.k,sI y.r.t.n,.J y.r.t.s,.aQ (y.r.ax.map eg) [fY]]) []):EN 32 (O Tryz.f112 0) ⟨[(0,sL l),(3,.aw 2008 0 (l.length+1)),(4,sI i)],[(2008,.aw 16 (zs))]⟩ ⟨[(0,sL l),(3,.aw 2008 0 (l.length+1)),(4,sI ((i+1:Nat):Int))],[(2008,.aw 16 (zs'))]⟩:=au Tryz.f112 2000
theorem TF (l:List Li) (zs:List AV) (hn:aa zs=true):En 32 (O Tryz.f112 0) ⟨[(0,sL l),(3,.aw 2008 0 (l.length+1)),(4,sI (l.length:Nat))],[(2008,.aw 16 (zs))]⟩ (fun e t=>e= .ar 0∧t=⟨[(0,sL l),(3,.aw 2008 0 (l.length+1))],[(2008,.aw 16 zs)]⟩):=au Tryz.f112 2000
theorem TI (l:List Li) (hsm:l.length≤651562446070) (hc:∀y,y∈l→Sp 166 [y.av] [] (.al [sJ y.k,.J y.p,.aQ (y.ts.map Tm.av) [ju],sJ y.jR,sJ y.l.op,.J y.l.t.v,sJ y.l.t.k,sI y.l.t.n,.J y.l.t.s,.aQ (y.l.ax.map eg) [fY],sJ y.r.op,.J y.r.t.v,sJ y.r.t.k,sI y.r.t.n,.J y.r.t.s,.aQ (y.r.ax.map eg) [fY]]) []):Sp 112 [sL l] [] (.aQ (l.map jD) [pi]) []:=by
 have hno:∀i,aa ((l.take i).map jD++List.replicate (l.length+1-i) (AV.al [sJ 0,.J ⟨#[]⟩,.ab,sJ 0,sJ 0,.J ⟨#[]⟩,sJ 0,sI 0,.J ⟨#[]⟩,.ab,sJ 0,.J ⟨#[]⟩,sJ 0,sI 0,.J ⟨#[]⟩,.ab]))=true:=fun i=>a8.2 fun x hx=>by
  rcases List.mem_append.1 hx with h|h
  ·obtain ⟨y,_,rfl⟩:=List.mem_map.1 h;exact tN y
  ·rw [(List.mem_replicate.1 h).2];rfl
 have hT:∀y:Li,jD y= .al [sJ y.k,.J y.p,.aQ (y.ts.map Tm.av) [ju],sJ y.jR,sJ y.l.op,.J y.l.t.v,sJ y.l.t.k,sI y.l.t.n,.J y.l.t.s,.aQ (y.l.ax.map eg) [fY],sJ y.r.op,.J y.r.t.v,sJ y.r.t.k,sI y.r.t.n,.J y.r.t.s,.aQ (y.r.ax.map eg) [fY]]:=fun y=>rfl
 have lq:=bJ.rX (P:=Tryz.prog) (n:=32) (c:=O Tryz.f112 0) (st:=fun i=>⟨[(0,sL l),(3,.aw 2008 0 (l.length+1)),(4,sI i)],[(2008,.aw 16 ((l.take i).map jD++List.replicate (l.length+1-i) (.al [sJ 0,.J ⟨#[]⟩,.ab,sJ 0,sJ 0,.J ⟨#[]⟩,sJ 0,sI 0,.J ⟨#[]⟩,.ab,sJ 0,.J ⟨#[]⟩,sJ 0,sI 0,.J ⟨#[]⟩,.ab])))]⟩) (N:=l.length) (fun i hi=>by
  have h1:l[i]? =some l[i]:=List.getElem?_eq_getElem hi
  have hs:((l.take i).map jD++List.replicate (l.length+1-i) (AV.al [sJ 0,.J ⟨#[]⟩,.ab,sJ 0,sJ 0,.J ⟨#[]⟩,sJ 0,sI 0,.J ⟨#[]⟩,.ab,sJ 0,.J ⟨#[]⟩,sJ 0,sI 0,.J ⟨#[]⟩,.ab])).set (0+Int.toNat (i:Int)) (jD l[i])=(l.take (i+1)).map jD++List.replicate (l.length+1-(i+1)) (AV.al [sJ 0,.J ⟨#[]⟩,.ab,sJ 0,sJ 0,.J ⟨#[]⟩,sJ 0,sI 0,.J ⟨#[]⟩,.ab,sJ 0,.J ⟨#[]⟩,sJ 0,sI 0,.J ⟨#[]⟩,.ab]):=by
   have e1:l.length+1-i=(l.length+1-(i+1))+1:=by omega
   rw [Nat.zero_add,Int.toNat_natCast,e1]
   exact iO jD _ h1
  rw [hT] at hs
  obtain ⟨_,_,⟨rfl,rfl⟩,r⟩:=TV l i l[i] _ _ hi hsm (by simp only [List.length_append,List.length_map,List.length_take,List.length_replicate];omega) (eY Li.av h1 rfl) hs (hno _) (hc _ (List.getElem_mem hi))
  exact r) (by obtain ⟨_,_,⟨rfl,rfl⟩,r⟩:=TF l _ (hno l.length);exact .bD r (by simp))
 have q0:((l.take l.length).map jD++List.replicate (l.length+1-l.length) (AV.al [sJ 0,.J ⟨#[]⟩,.ab,sJ 0,sJ 0,.J ⟨#[]⟩,sJ 0,sI 0,.J ⟨#[]⟩,.ab,sJ 0,.J ⟨#[]⟩,sJ 0,sI 0,.J ⟨#[]⟩,.ab])).length=l.length+1:=(by simp)
 have q1:((l.take l.length).map jD++List.replicate (l.length+1-l.length) (AV.al [sJ 0,.J ⟨#[]⟩,.ab,sJ 0,sJ 0,.J ⟨#[]⟩,sJ 0,sI 0,.J ⟨#[]⟩,.ab,sJ 0,.J ⟨#[]⟩,sJ 0,sI 0,.J ⟨#[]⟩,.ab])).set (0+Int.toNat ((l.map Li.av).length:Nat)) pi=l.map jD++[pi]:=(by rw [Nat.zero_add,Int.toNat_natCast,List.length_map,List.take_length,show l.length+1-l.length=1 by omega,List.set_append_right _ _ (by simp)];simp)
 have q2:=TM
 have q3:Lo 32 (O Tryz.f112 0) ⟨[(0,sL l),(3,.aw 2008 0 (l.length+1)),(4,sI 0)],[(2008,.aw 16 (List.replicate (l.length+1) (.al [sJ 0,.J ⟨#[]⟩,.ab,sJ 0,sJ 0,.J ⟨#[]⟩,sJ 0,sI 0,.J ⟨#[]⟩,.ab,sJ 0,.J ⟨#[]⟩,sJ 0,sI 0,.J ⟨#[]⟩,.ab])))]⟩ (.ar 0) ⟨[(0,sL l),(3,.aw 2008 0 (l.length+1))],[(2008,.aw 16 ((l.take l.length).map jD++List.replicate (l.length+1-l.length) (.al [sJ 0,.J ⟨#[]⟩,.ab,sJ 0,sJ 0,.J ⟨#[]⟩,sJ 0,sI 0,.J ⟨#[]⟩,.ab,sJ 0,.J ⟨#[]⟩,sJ 0,sI 0,.J ⟨#[]⟩,.ab])))]⟩:=(by simpa using lq)
 exact aK Tryz.f112 2000 32
theorem ZE (x:Ru) (k111:Sp 111 [sA x.hd] [] (.aQ (x.hd.map Ar.av) [pK]) []) (k112:Sp 112 [sL x.bd] [] (.aQ (x.bd.map jD) [pi]) []):En 12 (ai Tryz.f60) ⟨[(0,.al [.J x.p,sA x.hd,sL x.bd])],[]⟩ (fun e t=>e= .aR∧t=⟨[vl],[(2002,.an [.J x.p,.aQ (x.hd.map Ar.av) [pK],.aQ (x.bd.map jD) [pi]])]⟩):=au Tryz.f60 2000
theorem ZM (x:Ru) (k111:Sp 111 [sA x.hd] [] (.aQ (x.hd.map Ar.av) [pK]) []) (k112:Sp 112 [sL x.bd] [] (.aQ (x.bd.map jD) [pi]) []):Sp 60 [.al [.J x.p,sA x.hd,sL x.bd]] [] (.al [.J x.p,.aQ (x.hd.map Ar.av) [pK],.aQ (x.bd.map jD) [pi]]) []:=by
 obtain ⟨_,_,⟨rfl,rfl⟩,r⟩:=ZE x k111 k112
 exact sP Tryz.f60 (by simp [aa,aJ]) r (.inr rfl)
structure IS (x:Ru):Prop where
 hd:x.hd.length≤2513169434843
 bd:x.bd.length≤651562446070
 li:∀y,y∈x.bd→ZR y
theorem ZL (x:Ru) (h:IS x):Sp 60 [x.av] [] (jQ x) []:=ZM x (TH x.hd h.hd) (TI x.bd h.bd fun y hy=>TK y (h.li y hy))
theorem ZS (l:List Ru) (i:Nat) (y:Ru) (zs zs':List AV) (hi:i<l.length) (hsm:l.length≤2199023255488) (hl:zs.length=l.length+1) (hx:0≤(i:Int)∧(l.map Ru.av)[Int.toNat (i:Int)]? =some (y.av)) (hs:zs.set (0+Int.toNat (i:Int)) (.al [.J y.p,.aQ (y.hd.map Ar.av) [pK],.aQ (y.bd.map jD) [pi]])=zs') (hn:aa zs'=true) (kc:Sp 60 [y.av] [] (.al [.J y.p,.aQ (y.hd.map Ar.av) [pK],.aQ (y.bd.map jD) [pi]]) []):EN 32 (O Tryz.f30 0) ⟨[(0,sR l),(3,.aw 2008 0 (l.length+1)),(4,sI i)],[(2008,.aw 3 (zs))]⟩ ⟨[(0,sR l),(3,.aw 2008 0 (l.length+1)),(4,sI ((i+1:Nat):Int))],[(2008,.aw 3 (zs'))]⟩:=au Tryz.f30 2000
theorem ZI (l:List Ru) (zs:List AV) (hn:aa zs=true):En 32 (O Tryz.f30 0) ⟨[(0,sR l),(3,.aw 2008 0 (l.length+1)),(4,sI (l.length:Nat))],[(2008,.aw 3 (zs))]⟩ (fun e t=>e= .ar 0∧t=⟨[(0,sR l),(3,.aw 2008 0 (l.length+1))],[(2008,.aw 3 zs)]⟩):=au Tryz.f30 2000
theorem ZK (l:List Ru) (hsm:l.length≤2199023255488) (hc:∀y,y∈l→Sp 60 [y.av] [] (.al [.J y.p,.aQ (y.hd.map Ar.av) [pK],.aQ (y.bd.map jD) [pi]]) []):Sp 30 [sR l] [] (.aQ (l.map jQ) [pt]) []:=by
 have hno:∀i,aa ((l.take i).map jQ++List.replicate (l.length+1-i) (AV.al [.J ⟨#[]⟩,.ab,.ab]))=true:=fun i=>a8.2 fun x hx=>by
  rcases List.mem_append.1 hx with h|h
  ·obtain ⟨y,_,rfl⟩:=List.mem_map.1 h;exact tO y
  ·rw [(List.mem_replicate.1 h).2];rfl
 have hT:∀y:Ru,jQ y= .al [.J y.p,.aQ (y.hd.map Ar.av) [pK],.aQ (y.bd.map jD) [pi]]:=fun y=>rfl
 have lq:=bJ.rX (P:=Tryz.prog) (n:=32) (c:=O Tryz.f30 0) (st:=fun i=>⟨[(0,sR l),(3,.aw 2008 0 (l.length+1)),(4,sI i)],[(2008,.aw 3 ((l.take i).map jQ++List.replicate (l.length+1-i) (.al [.J ⟨#[]⟩,.ab,.ab])))]⟩) (N:=l.length) (fun i hi=>by
  have h1:l[i]? =some l[i]:=List.getElem?_eq_getElem hi
  have hs:((l.take i).map jQ++List.replicate (l.length+1-i) (AV.al [.J ⟨#[]⟩,.ab,.ab])).set (0+Int.toNat (i:Int)) (jQ l[i])=(l.take (i+1)).map jQ++List.replicate (l.length+1-(i+1)) (AV.al [.J ⟨#[]⟩,.ab,.ab]):=by
   have e1:l.length+1-i=(l.length+1-(i+1))+1:=by omega
   rw [Nat.zero_add,Int.toNat_natCast,e1]
   exact iO jQ _ h1
  rw [hT] at hs
  obtain ⟨_,_,⟨rfl,rfl⟩,r⟩:=ZS l i l[i] _ _ hi hsm (by simp only [List.length_append,List.length_map,List.length_take,List.length_replicate];omega) (eY Ru.av h1 rfl) hs (hno _) (hc _ (List.getElem_mem hi))
  exact r) (by obtain ⟨_,_,⟨rfl,rfl⟩,r⟩:=ZI l _ (hno l.length);exact .bD r (by simp))
 have q0:((l.take l.length).map jQ++List.replicate (l.length+1-l.length) (AV.al [.J ⟨#[]⟩,.ab,.ab])).length=l.length+1:=(by simp)
 have q1:((l.take l.length).map jQ++List.replicate (l.length+1-l.length) (AV.al [.J ⟨#[]⟩,.ab,.ab])).set (0+Int.toNat ((l.map Ru.av).length:Nat)) pt=l.map jQ++[pt]:=(by rw [Nat.zero_add,Int.toNat_natCast,List.length_map,List.take_length,show l.length+1-l.length=1 by omega,List.set_append_right _ _ (by simp)];simp)
 have q2:=ZN
 have q3:Lo 32 (O Tryz.f30 0) ⟨[(0,sR l),(3,.aw 2008 0 (l.length+1)),(4,sI 0)],[(2008,.aw 3 (List.replicate (l.length+1) (.al [.J ⟨#[]⟩,.ab,.ab])))]⟩ (.ar 0) ⟨[(0,sR l),(3,.aw 2008 0 (l.length+1))],[(2008,.aw 3 ((l.take l.length).map jQ++List.replicate (l.length+1-l.length) (.al [.J ⟨#[]⟩,.ab,.ab])))]⟩:=(by simpa using lq)
 exact aK Tryz.f30 2000 32
end
theorem EX {X:Type} (g T:X→AV) (l:List X) (m:AV):0≤(((l.map g).length:Nat):Int)∧(l.map T++[m])[Int.toNat (((l.map g).length:Nat):Int)]? =some m:=⟨by omega,by rw [Int.toNat_natCast,List.length_map,List.getElem?_append_right (by simp)];simp⟩
theorem T5 (l:List Tm) (hsm:l.length≤2932031007317):Sp 39 [.aQ (l.map Tm.av) [ju],sT l] [] (.ak true) []:=by
 have q0:Sp 21 [.aQ (l.map Tm.av) [ju],sT l] [] (.ak true) []:=((zP l (by omega)).Dq (.bz (.aQ _ _ _ (.bb _)) (.bz (.bb _) .iV)))
 have q1:=ZQ
 have q2:0≤(((l.map Tm.av).length:Nat):Int)∧(l.map Tm.av++[ju])[Int.toNat (((l.map Tm.av).length:Nat):Int)]? =some ju:=(EX Tm.av Tm.av l ju)
 exact aK Tryz.f39 2000 20
theorem TX (l:List Ar) (hsm:l.length≤2513169434843):Sp 118 [.aQ (l.map Ar.av) [pK],sA l] [] (.ak true) []:=by
 have q0:Sp 50 [.aQ (l.map Ar.av) [pK],sA l] [] (.ak true) []:=((Tu l (by omega)).Dq (.bz (.aQ _ _ _ (.bb _)) (.bz (.bb _) .iV)))
 have q1:=TN
 have q2:0≤(((l.map Ar.av).length:Nat):Int)∧(l.map Ar.av++[pK])[Int.toNat (((l.map Ar.av).length:Nat):Int)]? =some pK:=(EX Ar.av Ar.av l pK)
 exact aK Tryz.f118 2000 20
theorem TZ (p:ByteArray) (ts:List Tm) (k39:Sp 39 [.aQ (ts.map Tm.av) [ju],sT ts] [] (.ak true) []):Sp 12 [.al [.J p,.aQ (ts.map Tm.av) [ju]],.al [.J p,sT ts]] [] (.ak true) []:=by
 have q0:=k39
 exact aK Tryz.f12 2000 17
theorem T3 (x:Ex) (k248:Sp 248 [.aQ (x.ax.map eg) [fY],sE x.ax] [] (.ak true) []):Sp 209 [.al [sJ x.op,.J x.t.v,sJ x.t.k,sI x.t.n,.J x.t.s,.aQ (x.ax.map eg) [fY]],.al [sJ x.op,.J x.t.v,sJ x.t.k,sI x.t.n,.J x.t.s,sE x.ax]] [] (.ak true) []:=by
 have q0:=k248
 exact aK Tryz.f209 2000 24
theorem T4 (l:List Ex) (hsm:l.length≤1759218604390) (hc:∀y,y∈l→Sp 209 [.al [sJ y.op,.J y.t.v,sJ y.t.k,sI y.t.n,.J y.t.s,.aQ (y.ax.map eg) [fY]],.al [sJ y.op,.J y.t.v,sJ y.t.k,sI y.t.n,.J y.t.s,sE y.ax]] [] (.ak true) []):Sp 248 [.aQ (l.map eg) [fY],sE l] [] (.ak true) []:=by
 have q0:=TS
 have q1:0≤(((l.map Ex.av).length:Nat):Int)∧(l.map eg++[fY])[Int.toNat (((l.map Ex.av).length:Nat):Int)]? =some fY:=(EX Ex.av eg l fY)
 have q2:Lo 37 (O Tryz.f248 0) ⟨[(0,.aQ (l.map eg) [fY]),(1,sE l),(5,sI 0)],[]⟩ (.ar 0) ⟨[(0,.aQ (l.map eg) [fY]),(1,sE l)],[]⟩:=(d6 (S:=fun i=>⟨[(0,.aQ (l.map eg) [fY]),(1,sE l),(5,sI i)],[]⟩) (N:=l.length) (fun i hi=>have q0:=(eY eg (List.getElem?_eq_getElem hi) (vm _));have q1:=(eY Ex.av (List.getElem?_eq_getElem hi) (Ex.de _));have q2:=(hc _ (List.getElem_mem hi));au Tryz.f248 2000) (au Tryz.f248 2000))
 exact aK Tryz.f248 2000 37
theorem Kb:∀x:Ex,rO x→Sp 209 [.al [sJ x.op,.J x.t.v,sJ x.t.k,sI x.t.n,.J x.t.s,.aQ (x.ax.map eg) [fY]],.al [sJ x.op,.J x.t.v,sJ x.t.k,sI x.t.n,.J x.t.s,sE x.ax]] [] (.ak true) []:=Ex.Tl fun x ih h=>by
 cases h with
 |mk _ h k=>exact T3 x (T4 x.ax h fun y hy=>ih y hy (k y hy))
theorem T1 (x:Li) (k12:Sp 12 [.al [.J x.p,.aQ (x.ts.map Tm.av) [ju]],.al [.J x.p,sT x.ts]] [] (.ak true) []) (T3:Sp 209 [.al [sJ x.l.op,.J x.l.t.v,sJ x.l.t.k,sI x.l.t.n,.J x.l.t.s,.aQ (x.l.ax.map eg) [fY]],.al [sJ x.l.op,.J x.l.t.v,sJ x.l.t.k,sI x.l.t.n,.J x.l.t.s,sE x.l.ax]] [] (.ak true) []) (k209r:Sp 209 [.al [sJ x.r.op,.J x.r.t.v,sJ x.r.t.k,sI x.r.t.n,.J x.r.t.s,.aQ (x.r.ax.map eg) [fY]],.al [sJ x.r.op,.J x.r.t.v,sJ x.r.t.k,sI x.r.t.n,.J x.r.t.s,sE x.r.ax]] [] (.ak true) []):Sp 173 [.al [sJ x.k,.J x.p,.aQ (x.ts.map Tm.av) [ju],sJ x.jR,sJ x.l.op,.J x.l.t.v,sJ x.l.t.k,sI x.l.t.n,.J x.l.t.s,.aQ (x.l.ax.map eg) [fY],sJ x.r.op,.J x.r.t.v,sJ x.r.t.k,sI x.r.t.n,.J x.r.t.s,.aQ (x.r.ax.map eg) [fY]],.al [sJ x.k,.J x.p,sT x.ts,sJ x.jR,sJ x.l.op,.J x.l.t.v,sJ x.l.t.k,sI x.l.t.n,.J x.l.t.s,sE x.l.ax,sJ x.r.op,.J x.r.t.v,sJ x.r.t.k,sI x.r.t.n,.J x.r.t.s,sE x.r.ax]] [] (.ak true) []:=by
 have q0:=k12
 have q1:=T3
 have q2:=k209r
 exact aK Tryz.f173 2000 38
theorem T0 (x:Li) (h:ZR x):Sp 173 [jD x,x.av] [] (.ak true) []:=T1 x (TZ x.p x.ts (T5 x.ts h.ts)) (Kb x.l h.l) (Kb x.r h.r)
theorem TY (l:List Li) (hsm:l.length≤651562446070) (hc:∀y,y∈l→Sp 173 [.al [sJ y.k,.J y.p,.aQ (y.ts.map Tm.av) [ju],sJ y.jR,sJ y.l.op,.J y.l.t.v,sJ y.l.t.k,sI y.l.t.n,.J y.l.t.s,.aQ (y.l.ax.map eg) [fY],sJ y.r.op,.J y.r.t.v,sJ y.r.t.k,sI y.r.t.n,.J y.r.t.s,.aQ (y.r.ax.map eg) [fY]],y.av] [] (.ak true) []):Sp 119 [.aQ (l.map jD) [pi],sL l] [] (.ak true) []:=by
 have q0:=TO
 have q1:0≤(((l.map Li.av).length:Nat):Int)∧(l.map jD++[pi])[Int.toNat (((l.map Li.av).length:Nat):Int)]? =some pi:=(EX Li.av jD l pi)
 have q2:Lo 37 (O Tryz.f119 0) ⟨[(0,.aQ (l.map jD) [pi]),(1,sL l),(5,sI 0)],[]⟩ (.ar 0) ⟨[(0,.aQ (l.map jD) [pi]),(1,sL l)],[]⟩:=(d6 (S:=fun i=>⟨[(0,.aQ (l.map jD) [pi]),(1,sL l),(5,sI i)],[]⟩) (N:=l.length) (fun i hi=>have q0:=(eY jD (List.getElem?_eq_getElem hi) rfl);have q1:=(eY Li.av (List.getElem?_eq_getElem hi) rfl);have q2:=(hc _ (List.getElem_mem hi));au Tryz.f119 2000) (au Tryz.f119 2000))
 exact aK Tryz.f119 2000 37
theorem ZW (x:Ru) (k118:Sp 118 [.aQ (x.hd.map Ar.av) [pK],sA x.hd] [] (.ak true) []) (k119:Sp 119 [.aQ (x.bd.map jD) [pi],sL x.bd] [] (.ak true) []):Sp 68 [.al [.J x.p,.aQ (x.hd.map Ar.av) [pK],.aQ (x.bd.map jD) [pi]],.al [.J x.p,sA x.hd,sL x.bd]] [] (.ak true) []:=by
 have q0:=k118
 have q1:=k119
 exact aK Tryz.f68 2000 24
theorem ZV (x:Ru) (h:IS x):Sp 68 [jQ x,x.av] [] (.ak true) []:=ZW x (TX x.hd h.hd) (TY x.bd h.bd fun y hy=>T0 y (h.li y hy))
theorem ZU (l:List Ru) (hsm:l.length≤2199023255488) (hc:∀y,y∈l→Sp 68 [.al [.J y.p,.aQ (y.hd.map Ar.av) [pK],.aQ (y.bd.map jD) [pi]],y.av] [] (.ak true) []):Sp 33 [.aQ (l.map jQ) [pt],sR l] [] (.ak true) []:=by
 have q0:=ZO
 have q1:0≤(((l.map Ru.av).length:Nat):Int)∧(l.map jQ++[pt])[Int.toNat (((l.map Ru.av).length:Nat):Int)]? =some pt:=(EX Ru.av jQ l pt)
 have q2:Lo 37 (O Tryz.f33 0) ⟨[(0,.aQ (l.map jQ) [pt]),(1,sR l),(5,sI 0)],[]⟩ (.ar 0) ⟨[(0,.aQ (l.map jQ) [pt]),(1,sR l)],[]⟩:=(d6 (S:=fun i=>⟨[(0,.aQ (l.map jQ) [pt]),(1,sR l),(5,sI i)],[]⟩) (N:=l.length) (fun i hi=>have q0:=(eY jQ (List.getElem?_eq_getElem hi) rfl);have q1:=(eY Ru.av (List.getElem?_eq_getElem hi) rfl);have q2:=(hc _ (List.getElem_mem hi));au Tryz.f33 2000) (au Tryz.f33 2000))
 exact aK Tryz.f33 2000 37
section
variable (rules:List Ru) (p:ByteArray) (ts:List Tm) (e:Int)
abbrev ZX:Nat×AV:=(4,.ak true)
abbrev EY:St:=⟨[ZX],[]⟩
theorem b6t (k17:Sp 17 [sR rules] [] (.ak true) []):En 47 (ai Tryz.f6) ⟨[(0,sR rules),(1,.al [.J p,sT ts])],[]⟩ (fun e t=>e= .aR∧t=EY):=au Tryz.f6 2000
theorem b6z (e:Int) (k17:Sp 17 [sR rules] [] (.ak false) []) (k29:Sp 29 [sR rules,.al [.J p,sT ts]] [] (.bC [.al [.ab,.J ⟨#[]⟩,.ab,.ab],sI e]) []) (k30:Sp 30 [sR rules] [] (.aQ (rules.map jQ) [pt]) []) (k8:Sp 8 [.al [.J p,sT ts]] [] (.al [.J p,.aQ (ts.map Tm.av) [ju]]) []) (k31:Sp 31 [.aQ (rules.map jQ) [pt],.al [.J p,.aQ (ts.map Tm.av) [ju]]] [] (.bC [.al [.ab,.J ⟨#[]⟩,.ab,.ab],sI e]) []) (k32:Sp 32 [.al [.ab,.J ⟨#[]⟩,.ab,.ab],.al [.ab,.J ⟨#[]⟩,.ab,.ab]] [] (.ak true) []) (k33:Sp 33 [.aQ (rules.map jQ) [pt],sR rules] [] (.ak true) []) (k12:Sp 12 [.al [.J p,.aQ (ts.map Tm.av) [ju]],.al [.J p,sT ts]] [] (.ak true) []):En 47 (ai Tryz.f6) ⟨[(0,sR rules),(1,.al [.J p,sT ts])],[]⟩ (fun e t=>e= .aR∧t=EY):=au Tryz.f6 2000
theorem b6n (e:Int) (k17:Sp 17 [sR rules] [] (.ak false) []) (k29:Sp 29 [sR rules,.al [.J p,sT ts]] [] (.bC [.al [.ab,.J p,sT ts,.ab],sI e]) []) (k30:Sp 30 [sR rules] [] (.aQ (rules.map jQ) [pt]) []) (k8:Sp 8 [.al [.J p,sT ts]] [] (.al [.J p,.aQ (ts.map Tm.av) [ju]]) []) (k31:Sp 31 [.aQ (rules.map jQ) [pt],.al [.J p,.aQ (ts.map Tm.av) [ju]]] [] (.bC [.al [.ab,.J p,sT ts,.ab],sI e]) []) (k32:Sp 32 [.al [.ab,.J p,sT ts,.ab],.al [.ab,.J p,sT ts,.ab]] [] (.ak true) []) (k33:Sp 33 [.aQ (rules.map jQ) [pt],sR rules] [] (.ak true) []) (k12:Sp 12 [.al [.J p,.aQ (ts.map Tm.av) [ju]],.al [.J p,sT ts]] [] (.ak true) []):En 47 (ai Tryz.f6) ⟨[(0,sR rules),(1,.al [.J p,sT ts])],[]⟩ (fun e t=>e= .aR∧t=EY):=au Tryz.f6 2000
theorem b6f (e:Int) (R:List Ru) (nm mg:ByteArray) (us vs:List Tm) (k17:Sp 17 [sR rules] [] (.ak false) []) (k29:Sp 29 [sR rules,.al [.J p,sT ts]] [] (.bC [.al [sR R,.J nm,sT us,.aF [.al [.J mg,.aF (vs.map fc) false]] false],sI e]) []) (k30:Sp 30 [sR rules] [] (.aQ (rules.map jQ) [pt]) []) (k8:Sp 8 [.al [.J p,sT ts]] [] (.al [.J p,.aQ (ts.map Tm.av) [ju]]) []) (k31:Sp 31 [.aQ (rules.map jQ) [pt],.al [.J p,.aQ (ts.map Tm.av) [ju]]] [] (.bC [.al [sR R,.J nm,sT us,.aF [.al [.J mg,.aF (vs.map fc) false]] false],sI e]) []) (k32:Sp 32 [.al [sR R,.J nm,sT us,.aF [.al [.J mg,.aF (vs.map fc) false]] false],.al [sR R,.J nm,sT us,.aF [.al [.J mg,.aF (vs.map fc) false]] false]] [] (.ak true) []) (k33:Sp 33 [.aQ (rules.map jQ) [pt],sR rules] [] (.ak true) []) (k12:Sp 12 [.al [.J p,.aQ (ts.map Tm.av) [ju]],.al [.J p,sT ts]] [] (.ak true) []):En 47 (ai Tryz.f6) ⟨[(0,sR rules),(1,.al [.J p,sT ts])],[]⟩ (fun e t=>e= .aR∧t=EY):=au Tryz.f6 2000
theorem rP {X:Type} (f g:X→AV) (l:List X) (h:∀y,y∈l→uF (f y).ac (g y).ac):Wk (.aF (l.map f) false) (.aF (l.map g) false):=by
 have at_:∀{i:Nat} {e e':AV},(l.map f)[i]? =some e→(l.map g)[i]? =some e'→∃y,y∈l∧e=f y∧e'=g y:=by
  intro i e e' h1 h2
  rw [List.getElem?_map] at h1 h2
  cases hy:l[i]? with
  |none=>rw [hy] at h1;cases h1
  |some y=>
   rw [hy] at h1 h2
   simp only [Option.map_some,Option.some.injEq] at h1 h2
   exact ⟨y,List.mem_of_getElem? hy,h1.symm,h2.symm⟩
 refine .aF _ _ false (by simp) (fun i e e' h1 h2=> ?_) (fun i e e' j x y h1 h2 h3 h4=> ?_)
 ·obtain ⟨y,hy,rfl,rfl⟩:=at_ h1 h2;exact (h y hy).kx.1
 ·obtain ⟨z,hz,rfl,rfl⟩:=at_ h1 h2;exact (h z hz).kx.2 j x y h3 h4
theorem wkE:∀x:Ex,uF (eg x).ac x.av.ac:=Ex.Tl fun x ih=>by
 rw [vm,Ex.de]
 exact .bz (.bb _) (.bz (.bb _) (.bz (.bb _) (.bz (.bb _) (.bz (.bb _) (.bz (.aQ _ _ _ (rP eg Ex.av x.ax ih)) .iV)))))
theorem ZY (x:Li):uF (jD x).ac x.av.ac:=
 .bz (.bb _) (.bz (.bb _) (.bz (.aQ _ _ _ (.bb _)) (.bz (.bb _) (.bz (.bb _) (.bz (.bb _) (.bz (.bb _) (.bz (.bb _) (.bz (.bb _) (.bz (.aQ _ _ _ (rP eg Ex.av x.l.ax fun y _=>wkE y)) (.bz (.bb _) (.bz (.bb _) (.bz (.bb _) (.bz (.bb _) (.bz (.bb _) (.bz (.aQ _ _ _ (rP eg Ex.av x.r.ax fun y _=>wkE y)) .iV)))))))))))))))
theorem ZZ (x:Ru):uF (jQ x).ac x.av.ac:= .bz (.bb _) (.bz (.aQ _ _ _ (.bb _)) (.bz (.aQ _ _ _ (rP jD Li.av x.bd fun y _=>ZY y)) .iV))
theorem NH:Wk (.aQ (rules.map jQ) [pt]) (sR rules):= .aQ _ _ _ (rP jQ Ru.av rules fun y _=>ZZ y)
theorem k6 (h30:rules.length≤2199023255488) (hC:∀r,r∈rules→IS r) (hts:ts.length≤2932031007317) (rb:Bool) (k17:Sp 17 [sR rules] [] (.ak rb) [])
  (h:rb=false→∃(g:AV) (e:Int),Sp 29 [sR rules,.al [.J p,sT ts]] [] (.bC [g,sI e]) []∧Sp 31 [sR rules,.al [.J p,sT ts]] [] (.bC [g,sI e]) []∧
   (g= .al [.ab,.J ⟨#[]⟩,.ab,.ab]∨(g= .al [.ab,.J p,sT ts,.ab]∧ts.length<1000000000000)∨∃(R:List Ru) (nm mg:ByteArray) (us vs:List Tm),g= .al [sR R,.J nm,sT us,.aF [.al [.J mg,.aF (vs.map fc) false]] false]∧R.length≤1000000000000∧(∀r,r∈R→Tv r)∧us.length<1000000000000∧vs.length≤1000000000000)):
  Sp 6 [sR rules,.al [.J p,sT ts]] [] (.ak true) []:=by
 have fin:∀{st:St},Rz 47 (ai Tryz.f6) ⟨[(0,sR rules),(1,.al [.J p,sT ts])],[]⟩ .aR EY→Sp 6 [sR rules,.al [.J p,sT ts]] [] (.ak true) []:=fun r=>
  sP Tryz.f6 (by simp [aa,aJ]) r (.inr rfl)
 cases rb with
 |true=>obtain ⟨_,_,⟨rfl,rfl⟩,r⟩:=b6t rules p ts k17;exact fin (st:=⟨[],[]⟩) r
 |false=>
  obtain ⟨g,e,s29,s31,hg⟩:=h rfl
  have k30:=ZK rules h30 fun r hr=>ZL r (hC r hr)
  have k8:=k8t p ts (TT ts hts)
  have s31w:=s31.Dq (args':=[.aQ (rules.map jQ) [pt],.al [.J p,.aQ (ts.map Tm.av) [ju]]]) (.bz (NH rules) (.bz (uF.al (.bz (.bb _) (.bz (.aQ _ _ _ (.bb _)) .iV))) .iV))
  have k33:=ZU rules h30 fun r hr=>ZV r (hC r hr)
  have k12:=TZ p ts (T5 ts hts)
  rcases hg with rfl|⟨rfl,hts1⟩|⟨R,nm,mg,us,vs,rfl,h1,h2,h3,h4⟩
  ·have k32:=(ND [] ⟨#[]⟩ [] [] (by simp) (by simp) (by simp) (by simp) (by simp)).Dq (args':=[.al [.ab,.J ⟨#[]⟩,.ab,.ab],.al [.ab,.J ⟨#[]⟩,.ab,.ab]]) (.bz (uF.al (.bz .ab (.bz (.bb _) (.bz .ab (.bz .ab .iV))))) (.bz (uF.al (.bz .ab (.bz (.bb _) (.bz .ab (.bz .ab .iV))))) .iV))
   obtain ⟨_,_,⟨rfl,rfl⟩,r⟩:=b6z rules p ts e k17 s29 k30 k8 s31w k32 k33 k12
   exact fin (st:=⟨[],[]⟩) r
  ·have k32:=(ND [] p ts [] (by simp) (by simp) (by omega) (by simp) (by simp)).Dq (args':=[.al [.ab,.J p,sT ts,.ab],.al [.ab,.J p,sT ts,.ab]]) (.bz (uF.al (.bz .ab (.bz (.bb _) (.bz (.bb _) (.bz .ab .iV))))) (.bz (uF.al (.bz .ab (.bz (.bb _) (.bz (.bb _) (.bz .ab .iV))))) .iV))
   obtain ⟨_,_,⟨rfl,rfl⟩,r⟩:=b6n rules p ts e k17 s29 k30 k8 s31w k32 k33 k12
   exact fin (st:=⟨[],[]⟩) r
  ·have k32:=ND R nm us [(mg,vs)] h1 h2 h3 (by simp) (by simpa using h4)
   obtain ⟨_,_,⟨rfl,rfl⟩,r⟩:=b6f rules p ts e R nm mg us vs k17 s29 k30 k8 s31w k32 k33 k12
   exact fin (st:=⟨[],[]⟩) r
end
section
theorem IU (ts:List Tm):eJ (aW ts []) ts=bP ts:=by
 have go:∀(l pre acc:List Tm),(l.foldl (io (aW (pre++l) [])) (pre.length,acc)).2=acc++bP l:=by
  intro l
  induction l with
  |nil=>intro pre acc;simp [bP]
  |cons t l ih=>
   intro pre acc
   have e:pre++t::l=(pre++[t])++l:=by simp
   have hb:(aW (pre++t::l) []).data.toList[pre.length]? =some (pb [] t):=by
    have e:(aW (pre++t::l) []).data.toList=(pre++t::l).map (pb []):=by simp [aW]
    rw [e,List.getElem?_map,List.getElem?_append_right (Nat.le_refl _),Nat.sub_self];rfl
   have hp:pb [] t=98↔t.v=⟨#[]⟩:=by
    unfold pb
    by_cases h1:t.v=⟨#[]⟩
    ·simp [h1]
    ·have:mW [] t.v=false:=by rw [←Bool.not_eq_true,ko];simp
     rw [if_neg h1,this]
     split<;>simp [h1]
   rw [List.foldl_cons]
   have hs:io (aW (pre++t::l) []) (pre.length,acc) t=((pre++[t]).length,acc++bP [t]):=by
    unfold io bP
    simp only [hb,Option.some.injEq,hp,List.length_append,List.length_singleton,List.filter_cons,List.filter_nil,decide_eq_true_eq]
    split<;>simp
   rw [hs,e,ih]
   simp [bP,List.filter_cons]
   split<;>simp
 have:=go ts [] []
 simpa [eJ] using this
theorem E5 (L:List Ad):∀(G:List Ru) (a:Nat×List Ru),(∀x,x∈a.2→x∈(G.foldl (nD L) a).2)∧∀r,r∈G→∃i,∀x,x∈nA L r i→x∈(G.foldl (nD L) a).2
 |[],a=>⟨fun _ h=>h,fun _ h=>by cases h⟩
 |g::G,a=>by
  obtain ⟨h1,h2⟩:=E5 L G (nD L a g)
  rw [List.foldl_cons]
  refine ⟨fun x hx=>h1 x (List.mem_append_left _ hx),fun r hr=> ?_⟩
  rcases List.mem_cons.1 hr with rfl|hr
  ·exact ⟨a.1,fun x hx=>h1 x (List.mem_append_right _ hx)⟩
  ·exact h2 r hr
def yU (a:Nat×List Li×List Ru×Nat) (y:Li):Prop:=y∈a.2.1∨∃r,r∈a.2.2.1∧y∈r.bd
theorem IV (L:List Ad) (x:Ru) (i:Nat) (m:Li) (a:Nat×List Li×List Ru×Nat) (z:Li):yU (fm L x i m a z) z∧∀y,yU a y→yU (fm L x i m a z) y:=by
 unfold fm
 split
 ·refine ⟨.inl (by simp),fun y h=> ?_⟩
  rcases h with h|⟨r,h1,h2⟩
  ·exact .inr ⟨eh (qS i a.2.2.2) (iu x.hd x.bd m a.1) a.2.1,by simp,h⟩
  ·exact .inr ⟨r,by simp [h1],h2⟩
 ·refine ⟨.inl (by simp),fun y h=> ?_⟩
  rcases h with h|⟨r,h1,h2⟩
  ·exact .inl (by simp [h])
  ·exact .inr ⟨r,h1,h2⟩
theorem AD (L:List Ad) (x:Ru) (i:Nat) (m:Li):∀(l:List Li) (a:Nat×List Li×List Ru×Nat),(∀y,yU a y→yU (l.foldl (fm L x i m) a) y)∧∀y,y∈l→yU (l.foldl (fm L x i m) a) y
 |[],a=>⟨fun _ h=>h,fun _ h=>by cases h⟩
 |z::l,a=>by
  rw [List.foldl_cons]
  obtain ⟨h1,h2⟩:=AD L x i m l (fm L x i m a z)
  obtain ⟨h3,h4⟩:=IV L x i m a z
  refine ⟨fun y hy=>h1 y (h4 y hy),fun y hy=> ?_⟩
  rcases List.mem_cons.1 hy with rfl|hy
  ·exact h1 _ h3
  ·exact h2 y hy
theorem Kc {L:List Ad} {G:List Ru} {r:Ru} (hr:r∈G):(∀y,y=tC L r∨y∈r.bd→∃q,q∈eZ L G∧y∈q.bd)∧∃B,eh r.p (r.hd.map Ar.t) B∈eZ L G:=by
 obtain ⟨i,h⟩:=(E5 L G (0,[])).2 r hr
 refine ⟨fun y hy=> ?_,_,h _ (by unfold nA;exact List.mem_append_right _ (List.mem_singleton.2 rfl))⟩
 obtain ⟨h1,h2⟩:=AD L r i (tC L r) r.bd (0,[tC L r],[],0)
 have:yU (r.bd.foldl (fm L r i (tC L r)) (0,[tC L r],[],0)) y:=by
  rcases hy with rfl|hy
  ·exact h1 _ (.inl (by simp))
  ·exact h2 y hy
 rcases this with g|⟨q,g1,g2⟩
 ·exact ⟨_,h _ (by unfold nA;exact List.mem_append_right _ (List.mem_singleton.2 rfl)),g⟩
 ·exact ⟨q,h q (by unfold nA;exact List.mem_append_left _ g1),g2⟩
theorem E4 {L:List Ad} {G:List Ru} {rs:List Ru} (hok:∀r,r∈rs→ch r.p r.hd r.bd=true) (hall:∀r,r∈eZ L G→ch r.p r.hd r.bd=true) {r:Ru} (hr:r∈G) (ha:NZ rs L r) (hpt:w8 L r):B5 r=true:=by
 obtain ⟨h1,B,h2⟩:=Kc (L:=L) hr
 have h:=hall _ h2
 have hf:=hpt.tv
 have hh:=hpt.hd
 unfold B5
 simp only [ch,eh,Bool.and_eq_true,decide_eq_true_eq,List.length_map,List.all_eq_true] at h⊢
 obtain ⟨⟨⟨⟨⟨a1,_⟩,_⟩,a4⟩,_⟩,_⟩:=h
 refine ⟨⟨⟨⟨⟨a1,hh⟩,hf⟩,fun x hx=> ?_⟩,fun y hy=> ?_⟩,?_⟩
 ·rcases ha with ⟨a,_,r0,h0,_,rfl⟩|⟨a,_,rfl⟩
  ·have:=hok r0 h0
   simp only [ch,Bool.and_eq_true,List.all_eq_true] at this
   exact this.1.1.2 x hx
  ·have:=a4 ⟨0,x.t⟩ (by simp only [List.map_map,List.mem_map,Function.comp];exact ⟨x,hx,rfl⟩)
   simp only [ru,hV,List.mem_map] at hx
   obtain ⟨i,_,rfl⟩:=hx
   exact this
 ·obtain ⟨q,h3,h4⟩:=h1 y (.inr hy)
  have:=hall q h3
  simp only [ch,Bool.and_eq_true,List.all_eq_true] at this
  exact this.1.2 y h4
 ·rcases ha with ⟨a,_,r0,h0,_,rfl⟩|⟨a,_,rfl⟩
  ·have:=hok r0 h0
   simp only [ch,Bool.and_eq_true,decide_eq_true_eq] at this
   refine Nat.le_trans (gB (jt _) fun v hv=> ?_) this.2
   obtain ⟨⟨t,h3,h4⟩,h5⟩:=cO.1 hv
   refine cO.2 ⟨⟨t,?_,h4⟩,h5⟩
   rcases List.mem_append.1 h3 with h3|h3
   ·exact List.mem_append_left _ h3
   ·obtain ⟨y,hy,ht⟩:=List.mem_flatMap.1 h3
    refine List.mem_append_right _ ?_
    obtain ⟨z,hz,⟨rfl,_⟩|⟨_,_,F,rfl⟩⟩:=pJ rs r0.bd _ _ (by simp) y hy
    ·exact List.mem_flatMap.2 ⟨_,hz,ht⟩
    ·exact List.mem_flatMap.2 ⟨z,hz,ht⟩
  ·have hn:a.2.size≤24:=by have:=hh;simp only [ru,kL] at this;exact this
   refine Nat.le_trans (gB (m:=(tV a.2.size).map (·.v)) (jt _) fun v hv=> ?_) (by rw [List.length_map,my];exact hn)
   obtain ⟨⟨t,h3,h4⟩,h5,_⟩:=cO.1 hv
   rcases List.mem_append.1 h3 with h3|h3
   ·simp only [ru,hV,List.map_map,List.mem_map,Function.comp] at h3
    obtain ⟨i,h6,rfl⟩:=h3
    exact List.mem_map.2 ⟨vT i,by unfold tV;exact List.mem_map.2 ⟨i,h6,rfl⟩,h4⟩
   ·simp only [ru,az,List.flatMap_cons,List.flatMap_nil,List.append_nil,Li.af,HS,List.mem_append] at h3
    rcases h3 with h3|h3|h3
    ·exact List.mem_map.2 ⟨t,h3,h4⟩
    ·simp only [Jm,Ex.af,Ex.bv,List.mem_singleton] at h3;subst h3;exact absurd h4.symm h5
    ·simp only [Jm,Ex.af,Ex.bv,List.mem_singleton] at h3;subst h3;exact absurd h4.symm h5
theorem EZ (rs:List Ru) (a:Ad):∀(l:List Ru) (s:List Ad×List Ru),∀r,r∈s.2→r∈(l.foldl (gT rs a) s).2
 |[],s,r,h=>h
 |y::l,s,r,h=>by
  rw [List.foldl_cons]
  refine EZ rs a l _ r ?_
  unfold gT
  split
  ·exact List.mem_append_left _ h
  ·exact h
theorem BG.pL {rs:List Ru} {i:Nat} {L L':List Ad} {out out':List Ru} (h:BG rs i L out L' out'):(∀r,r∈out→r∈out')∧∀j a,i≤j→L'[j]? =some a→ru a∈out':=by
 induction h with
 |oF L out=>exact ⟨fun _ h=>h,fun j a h1 h2=>by have:=(List.getElem?_eq_some_iff.1 h2).1;omega⟩
 | @go i a L L' out out' h1 h2 ih=>
   obtain ⟨g1,g2⟩:=ih
   refine ⟨fun r hr=>g1 r (List.mem_append_left _ (EZ rs a rs _ r hr)),fun j b hj hb=> ?_⟩
   by_cases e:j=i
   ·subst e
    have hp:L<+:L':=(vc rs a rs (L,out)).1.trans h2.ez
    obtain ⟨t,rfl⟩:=hp
    rw [List.getElem?_append_left (List.getElem?_eq_some_iff.1 h1).1,h1] at hb
    injection hb with hb;subst hb
    exact g1 _ (by simp)
   ·exact g2 j b (by omega) hb
theorem T6 {p:ByteArray} {ts:List Tm} (h:fk (eR p ts)=true):od p=true:=by
 unfold fk at h
 rw [if_pos (.inl rfl)] at h
 simp only [Bool.and_eq_true,lh] at h
 exact h.2.1.1
theorem AC {x:Ex} (h:r9 x=true):rN x:=by
 simp only [r9,Bool.and_eq_true,decide_eq_true_eq] at h
 have hk:=List.length_eq_zero_iff.1 h.2
 exact .mk x (by omega) (by rw [hk];simp)
theorem oL:∀(d:Nat) (x:Ex),dF d x=true→rN x
 |0,_,h=>by cases h
 |d+1,x,h=>by
  simp only [dF,je] at h
  split at h
  ·simp only [Bool.and_eq_true,decide_eq_true_eq] at h
   have hk:=List.length_eq_zero_iff.1 h.1
   exact .mk x (by omega) (by rw [hk];simp)
  ·simp only [Bool.and_eq_true,decide_eq_true_eq,Bool.not_eq_true',List.any_eq_false,Bool.not_eq_true,Bool.not_eq_false'] at h
   have:m7 x.op≤2:=by unfold m7;split<;>(try split)<;>omega
   exact .mk x (by omega) fun y hy=>oL d y (by simpa using h.2 y hy)
theorem Z0 {y:Li} (h:fk y=true):ZC y:=by
 have hs:=fQ h
 refine ⟨by omega,?_,?_⟩
 all_goals
  unfold fk at h
  split at h
  ·simp only [Bool.and_eq_true] at h
   first|exact AC h.1.1.2|exact AC h.1.2
  ·simp only [Bool.and_eq_true] at h
   first|exact oL 8 _ h.1.2|exact oL 8 _ h.2
theorem Z1 {r:Ru} (h:ch r.p r.hd r.bd=true):Tv r:=by
 have hs:=fF h
 refine ⟨by omega,by omega,fun y hy=>Z0 ?_⟩
 simp only [ch,Bool.and_eq_true,List.all_eq_true] at h
 exact h.1.2 y hy
section
variable {rs:List Ru} {rn:List ByteArray} {U L:List Ad} (hrn:RN rs rn) (hu:Bx rs rn U) (hg:Good U L)
include hrn hu hg
theorem NI (hj:d7 rs=0) (hv:oB rs=false) {r:Ru} (h:NZ rs L r):tL L r:=by
 have hbf:∀a,a∈L→sr a.2:=fun a ha=>hu.bf a (hg.2 a ha)
 refine ⟨yO hrn hu hg hj hv h,?_,fun y hy hk hb=> ?_⟩
 ·rcases h with ⟨a,ha,r0,h0,hp,rfl⟩|⟨a,ha,rfl⟩
  ·show (cb L (aH a.1 a.2)).2=true∧r0.hd.length=(cb L (aH a.1 a.2)).1.2.size∧sr (cb L (aH a.1 a.2)).1.2
   rw [jr hbf ha]
   exact ⟨rfl,(hu.NV a (hg.2 a ha) r0 h0 hp).symm,hbf a ha⟩
  ·show (cb L (aH a.1 a.2)).2=true∧(hV a.2.size).length=(cb L (aH a.1 a.2)).1.2.size∧sr (cb L (aH a.1 a.2)).1.2
   rw [jr hbf ha,kL]
   exact ⟨rfl,rfl,hbf a ha⟩
 ·obtain ⟨m1,m2⟩:=rD hb
  refine ⟨?_,hbf _ m1⟩
  rcases h with ⟨a,ha,r0,h0,hp,rfl⟩|⟨a,ha,rfl⟩
  ·obtain ⟨z,hz,⟨rfl,hn⟩|⟨_,_,F,rfl⟩⟩:=pJ rs r0.bd _ _ (by simp) y hy
   ·rw [Au ((iP hv h0).2 y hz (.inl hk))] at hb;cases hb
   ·obtain ⟨_,e2⟩:=iU (hbf _ m1) (nC z.ts F) m2
    show z.ts.length=_
    rw [e2,dq]
  ·simp only [ru,List.mem_singleton] at hy;subst hy
   have haU:=hu.HT a (hg.2 a ha)
   obtain ⟨r0,h0,hp⟩:=(hrn a.1).1 haU.1
   rw [Au (show np (HS a.1 a.2.size).p from by show np a.1;rw [←hp];exact (iP hv h0).1)] at hb;cases hb
omit hrn in
theorem E3:tK L (L.map rM) (L.map bE):=fun nm=>by
 have e:L.map rM=(L.map fun a=>aH a.1 a.2).map AV.J:=by simp [List.map_map,Function.comp]
 have hbf:∀a,a∈L→sr a.2:=fun a ha=>hu.bf a (hg.2 a ha)
 constructor
 ·intro h
  obtain ⟨m1,m2⟩:=rD h
  rw [e]
  obtain ⟨j,h1,h2⟩:=cy (i:=0) (v:=nm) (l:=L.map fun a=>aH a.1 a.2) (List.mem_map.2 ⟨_,m1,m2⟩)
  rw [Nat.zero_add] at h1
  refine ⟨j,h1,?_⟩
  rw [List.getElem?_map] at h2⊢
  cases hL:L[j]? with
  |none=>rw [hL] at h2;cases h2
  |some b=>
   rw [hL] at h2
   simp only [Option.map_some,Option.some.injEq] at h2⊢
   obtain ⟨e1,e2⟩:=iU (hbf _ (List.mem_of_getElem? hL)) (hbf _ m1) (h2.trans m2.symm)
   simp only [bE,e1,e2]
 ·intro h
  rw [e]
  refine co fun hm=> ?_
  obtain ⟨b,h1,h2⟩:=List.mem_map.1 hm
  rw [←h2,jr hbf h1] at h
  cases h
theorem g31 (hj:d7 rs=0) (hv:oB rs=false) {G:List Ru} {p:ByteArray} {ts:List Tm} (hat:lh p ts=true) (h0:[(p,aW ts [])]<+:L) (hA:∀r,r∈G→NZ rs L r) (hl:G.length<900000000) (hne:G≠[]):G31 L G p ts:=by
 have hbf:∀a,a∈L→sr a.2:=fun a ha=>hu.bf a (hg.2 a ha)
 have hs:=gR hat
 have hfew:=hu.tv
 have hlen:=gB hg.1 hg.2
 have h0m:(p,aW ts [])∈L:=h0.subset (by simp)
 refine ⟨by omega,fun h=>(by rw [h] at h0m;cases h0m),fun a ha=>(by have:=hu.HT a (hg.2 a ha);omega),fun i y hy=> ?_,E3 hu hg,hl,hne,fun r hr=>NI hrn hu hg hj hv (hA r hr),nC _ _,by omega,by omega,?_,fun y hy h=> ?_⟩
 ·have e:(L.take i).map rM=((L.take i).map fun a=>aH a.1 a.2).map AV.J:=by rw [List.map_map];rfl
  rw [e]
  refine co fun hm=> ?_
  obtain ⟨b,h1,h2⟩:=List.mem_map.1 hm
  obtain ⟨k,h3⟩:=List.getElem?_of_mem h1
  have hk:k<i:=by
   have:=(List.getElem?_eq_some_iff.1 h3).1
   rw [List.length_take] at this;omega
  rw [List.getElem?_take_of_lt hk] at h3
  obtain ⟨e1,e2⟩:=iU (hbf _ (List.mem_of_getElem? h3)) (hbf _ (List.mem_of_getElem? hy)) h2
  have:b=y:=Prod.ext e1 e2
  subst this
  have:=k9 hg.1 h3 hy
  omega
 ·have:=(E3 hu hg (aH p (aW ts []))).1
  have e:cb L (aH p (aW ts []))=((p,aW ts []),true):=jr hbf h0m
  rw [e] at this
  exact this rfl
 ·have hr:=fF h
  refine ⟨by omega,by omega,fun x hx=> ?_⟩
  simp only [ch,Bool.and_eq_true,List.all_eq_true] at h
  have hx:=h.1.2 x hx
  have h1:=fQ hx
  have h2:=fD hx
  have h3:x.af.length=x.ts.length+(x.l.af.length+x.r.af.length):=by simp [Li.af]
  omega
end
theorem NJ (rules:List Ru) (p:ByteArray) (ts:List Tm) (hsm:rules.length≤2000000) (hB:yN rules):∃(g:AV) (e:Int),Sp 29 [sR rules,.al [.J p,sT ts]] [] (.bC [g,sI e]) []∧Sp 31 [sR rules,.al [.J p,sT ts]] [] (.bC [g,sI e]) []∧
   (g= .al [.ab,.J ⟨#[]⟩,.ab,.ab]∨(g= .al [.ab,.J p,sT ts,.ab]∧ts.length<1000000000000)∨∃(R:List Ru) (nm mg:ByteArray) (us vs:List Tm),g= .al [sR R,.J nm,sT us,.aF [.al [.J mg,.aF (vs.map fc) false]] false]∧R.length≤1000000000000∧(∀r,r∈R→Tv r)∧us.length<1000000000000∧vs.length≤1000000000000):=by
 have hB':=hB
 obtain ⟨rn,D,hrn,_⟩:=hB'
 obtain ⟨g,pr,e,s18,h⟩:=k18 rules p ts hsm (fun rn am h1 h2 h3=>uok hB h1 h2 h3)
 have hU:∃U:List Ad,dv rules p ts=0→p∈rn→Bx rules rn U∧(p,aW ts [])∈U:=by
  by_cases h0:dv rules p ts=0∧p∈rn
  ·obtain ⟨am,hok⟩:=D4 h0.1
   obtain ⟨U,h1⟩:=uok hB hrn hok h0.2
   exact ⟨U,fun _ _=>h1⟩
  ·exact ⟨[],fun h1 h2=>absurd ⟨h1,h2⟩ h0⟩
 obtain ⟨U,hU⟩:=hU
 obtain ⟨g',e',s29,h'⟩:=YE rules rn U p ts hrn hsm hU
 rcases h with ⟨hA,rfl,rfl,rfl⟩|⟨hA,rfl,rfl,rfl,hno⟩|⟨hA,am,rn2,L,out,hok,hrn2,hp,d1,d2,d3,hUx,d4,d5,hfin⟩
 ·rcases h' with ⟨_,rfl,rfl⟩|⟨h0,_⟩|⟨h0,_⟩
  ·exact ⟨_,_,s29,Tj rules p ts _ hA s18,.inl rfl⟩
  ·exact absurd h0 hA
  ·exact absurd h0 hA
 ·rcases h' with ⟨h0,_⟩|⟨_,_,rfl,rfl⟩|⟨_,hpr,_⟩
  ·exact absurd hA h0
  ·exact ⟨_,_,s29,Zv rules p ts s18,.inr (.inl ⟨rfl,by obtain ⟨_,hat,_⟩:=nu hA;have:=gR hat;omega⟩)⟩
  ·obtain ⟨r,h1,h2⟩:=(hrn p).1 hpr
   exact absurd h2 (hno r h1)
 ·have hpr:p∈rn:=(hrn p).2 ((hrn2 p).1 hp)
  rcases h' with ⟨h0,_⟩|⟨_,h0,_⟩|⟨_,_,L2,G,c1,c2,c3,c4,hdoc⟩
  ·exact absurd hA h0
  ·exact absurd hpr h0
  ·obtain ⟨hj,hat,_,hv,_⟩:=nu hA
   have hjo:=kC hj
   obtain ⟨rfl,rfl⟩:=BG.det (Ip hrn2 hjo d1) c1
   obtain ⟨hu,hpU⟩:=hU hA hpr
   have hAdn:=c1.adn (by simp)
   have hgiv:∀a,a∈L→ru a∈out:=fun a ha=>by
    obtain ⟨j,hj⟩:=List.getElem?_of_mem ha
    exact c1.pL.2 j a (Nat.zero_le _) hj
   have h0m:(p,aW ts [])∈L:=c3.subset (by simp)
   have hs:=gR hat
   have hbf:∀a,a∈L→sr a.2:=fun a ha=>hu.bf a (c2.2 a ha)
   have g31':=g31 hrn hu c2 hj hv hat c3 hAdn c4 (List.ne_nil_of_mem (hgiv _ h0m))
   rcases hfin with ⟨hall,rfl,rfl,rfl⟩|⟨hall,rfl,rfl,rfl⟩
   ·rcases hdoc with ⟨_,rfl,rfl⟩|⟨_,hrw,_⟩
    ·exact ⟨_,_,s29,Tj rules p ts 70 (by decide) s18,.inl rfl⟩
    ·have:out.all B5=true:=List.all_eq_true.2 fun r hr=>E4 (fun r hr=>(hjo r hr).1) hrw hr (hAdn r hr) (yO hrn hu c2 hj hv (hAdn r hr))
     rw [this] at hall;cases hall
   ·rcases Zu rules p ts out L g31' s18 with ⟨s31,r,h1,h2⟩|⟨s31,hrw⟩
    ·rcases hdoc with ⟨_,rfl,rfl⟩|⟨_,hrw,_⟩
     ·exact ⟨_,_,s29,s31,.inl rfl⟩
     ·rw [hrw r h1] at h2;cases h2
    ·rcases hdoc with ⟨hbad,rfl,rfl⟩|⟨_,_,_,rfl,rfl⟩
     ·exfalso
      rcases hbad with ⟨a,h1,h2⟩|⟨r,h1,h2⟩|h1
      ·have:=List.all_eq_true.1 hall _ (hgiv a h1)
       simp only [B5,ch,ru,Bool.and_eq_true] at this
       have:=rj this.1.1.1.1.1
       omega
      ·rw [hrw r h1] at h2;cases h2
      ·obtain ⟨q,h2,h3⟩:=(Kc (L:=L) (hgiv _ h0m)).1 _ (.inl rfl)
       have:=hrw _ h2
       simp only [ch,Bool.and_eq_true,List.all_eq_true] at this
       have:=T6 (this.1.2 _ h3)
       have e:cb L (ru (p,aW ts [])).p=((p,aW ts []),true):=jr hbf h0m
       rw [e] at this
       rw [this] at h1;cases h1
     ·rw [IU] at s31
      have hl:=(Tf (aH p (aW ts [])) ts out L (L.map rM) (L.map bE) ⟨by simp,by simp⟩ g31'.nam g31'.NC g31'.ok).2
      refine ⟨_,_,s29,s31,.inr (.inr ⟨_,_,_,_,_,rfl,by omega,fun r hr=>Z1 (hrw r hr),by omega,?_⟩)⟩
      have:(bP ts).length≤ts.length:=List.length_filter_le ..
      omega
end
end Go.Ped
