/- What the functions of the packages term and check answer is proved for every input. -/
import Derived.Test.YthhfolohakiemaaGreatDoorMagH
import Derived.Test.YthhfolohakiemaaGreatDoorMagI
import Derived.Test.YthhfolohakiemaaGreatDoorMagJ
import Derived.Test.YthhfolohakiemaaGreatDoorMagK
import Derived.Test.YthhfolohakiemaaGreatDoorMagM
set_option linter.all false
set_option maxRecDepth 20000
set_option maxHeartbeats 800000
namespace Go.Ped
open Go.RowKit Go.Proofs
section
variable (p:ByteArray) (hd:List Ar) (bd la:List Li)
abbrev DL:Nat×AV:=(1,.aA 2001 0 0)
abbrev DK (p:ByteArray) (hd:List Ar) (bd:List Li) (b:Bool) (la:List Li) (i:Nat):St:=⟨[DL,(3,.aO 1003 la.length),(4,.ak b),(11,sL bd),(12,sI ((bd.map Li.av).length:Nat)),(13,sI i)],[(2001,.an [.J p,sA hd,sL bd]),(1003,.ao 16 (la.map Li.av))]⟩
abbrev Hp (p:ByteArray) (hd:List Ar) (bd:List Li) (b:Bool) (la:List Li):St:=⟨[DL,(3,sL la),(4,.ak b)],[(2001,.an [.J p,sA hd,sL bd])]⟩
def pn (a:Bool×List Li) (y:Li):Bool×List Li:=if y.k=1 then (a.1,a.2++[y]) else if y.k=3 then (a.1||(!decide (y.l.op=0)|| !decide (y.r.op=0)),a.2) else a
attribute [local simp,local grind] pn in
theorem Qv (p:ByteArray) (hd:List Ar) (bd:List Li) (la:List Li) (i:Nat) (y:Li) (hi:i<bd.length) (hsm:bd.length≤1000) (hla:la.length≤1000) (hx:0≤(i:Int)∧(bd.map Li.av)[Int.toNat (i:Int)]? =some y.av):En 52 (O Tryz.f134 0) ((DK p hd bd true la i)) (fun eo so=>eo= .aj∧so=DK p hd bd (pn (true,la) y).1 (pn (true,la) y).2 (i+1)):=au Tryz.f134 2000
attribute [local simp,local grind] pn in
theorem Qu (p:ByteArray) (hd:List Ar) (bd:List Li) (la:List Li) (i:Nat) (y:Li) (hi:i<bd.length) (hsm:bd.length≤1000) (hla:la.length≤1000) (hx:0≤(i:Int)∧(bd.map Li.av)[Int.toNat (i:Int)]? =some y.av):En 52 (O Tryz.f134 0) ((DK p hd bd false la i)) (fun eo so=>eo= .aj∧so=DK p hd bd (pn (false,la) y).1 (pn (false,la) y).2 (i+1)):=au Tryz.f134 2000
abbrev Qp:St:=⟨[(2,.ak false)],[]⟩
theorem Qr (la:List Li) (hE:decide (eD p hd bd=0)=false):En 52 (ai Tryz.f134) (⟨[(0,.al [.J p,sA hd,sL bd])],[]⟩) (fun eo so=>eo= .aR∧so=Qp):=au Tryz.f134 2000
theorem Qq (hE:decide (eD p hd bd=0)=true) (l134_0q:Lo 52 (O Tryz.f134 0) ⟨[DL,(3,.ab),(4,.ak false),(11,sL bd),(12,sI ((bd.map Li.av).length:Nat)),(13,sI 0)],[(2001,.an [.J p,sA hd,sL bd])]⟩ (.ar 0) (Hp p hd bd false la)):En 52 (ai Tryz.f134) (⟨[(0,.al [.J p,sA hd,sL bd])],[]⟩) (fun eo so=>eo= .aR∧so=Qp):=by
 have o0:=l134_0q
 exact au Tryz.f134 2000
theorem Qs (l V:List ByteArray) (hV:V.length≤9223372036854775807) (hE:decide (eD p hd bd=0)=true) (JB:Sp 175 [sL la] [] (.aA 100005 0 0) (fp l)) (k91x:Sp 91 [.al [.J ⟨#[]⟩,sA hd,.ab]] [] (sS V) []) (l134_0q:Lo 52 (O Tryz.f134 0) ⟨[DL,(3,.ab),(4,.ak false),(11,sL bd),(12,sI ((bd.map Li.av).length:Nat)),(13,sI 0)],[(2001,.an [.J p,sA hd,sL bd])]⟩ (.ar 0) (Hp p hd bd true la)):En 52 (ai Tryz.f134) (⟨[(0,.al [.J p,sA hd,sL bd])],[]⟩) (fun eo so=>eo= .aR∧∃rb:Bool,so=⟨[(2,.ak rb)],fp l⟩∧rb= !bT V l):=by
 have hs4:=DG V l (by assumption)
 have u0:(!decide (eD p hd bd=0))=false:=(by rw [hE];rfl)
 have u1:aa (List.map AV.J l)=true∧aa (pos l)=true:=by simp
 refine zs 2000<|zc (JA p hd bd)<|zf u0<|zh rT<|zd (.g8 [1,3,4,11,12,13] [K1 2001])<|zl l134_0q<|zc JB<|zc k91x<|zc hs4<|zh u1<|?_
 cases hb5:bT V l with
 |true=>
  rw [hb5] at hs4
  exact zq (s:=St.mk [(2,.ak false)] [(100003,.aI (l.map AV.J) (pos l)),(100005,.an [.aX 1 (l.map AV.J),.aI 100003])]) ⟨rfl,_,rfl,by simp_all⟩
 |false=>
  rw [hb5] at hs4
  exact zq (s:=St.mk [(2,.ak true)] [(100003,.aI (l.map AV.J) (pos l)),(100005,.an [.aX 1 (l.map AV.J),.aI 100003])]) ⟨rfl,_,rfl,by simp_all⟩
theorem Wj (hB:hd.length<8796093022208):Sp 91 [.al [.J p,sA hd,.ab]] [] (sS (ay (hd.map Ar.t))) []:=by
 have h:=OY p hd [] (by simp) (by simp [az];omega)
 have e:hd.map Ar.t++az []=hd.map Ar.t:=by simp [az]
 rw [e] at h
 refine bK.Z8 h rfl (fun i x y hx hy=> ?_)
 cases i with
 |zero=>
  simp at hx hy;subst hx;subst hy
  refine .al _ _ rfl (fun i c d hc hd'=> ?_)
  match i with
  |0=>simp at hc hd';subst hc;subst hd';exact .bb _
  |1=>simp at hc hd';subst hc;subst hd';exact .bb _
  |2=>simp at hc hd';subst hc;subst hd';exact .ab
  |(i+3)=>simp at hc
 |succ i=>simp at hx
theorem Hq:∀a:Bool×List Li,(bd.foldl pn a).1=bd.foldl oz a.1∧(bd.foldl pn a).2=a.2++bd.filter fun y=>decide (y.k=1):=by
 induction bd with
 |nil=>intro a;simp
 |cons y r ih=>
  intro a
  rw [List.foldl_cons,List.foldl_cons]
  obtain ⟨i1,i2⟩:=ih (pn a y)
  rw [i1,i2]
  unfold pn oz
  by_cases h1:y.k=1
  ·simp [h1]
  ·by_cases h3:y.k=3<;>simp [h1,h3]
theorem LK {la:List Li} (h:∀y,y∈la→y.k=1) (v:ByteArray):qK la v↔∃y,y∈la∧v∈ay y.ts:=by
 constructor
 ·intro hv
  cases hv with
  |wr y hy hk v hv=>exact ⟨y,hy,hv⟩
  |yd y hy hk _ _ _=>have:=h y hy;omega
  |qL y hy hk _ _ _=>have:=h y hy;omega
 ·rintro ⟨y,hy,hv⟩
  exact .wr y hy (h y hy) v hv
theorem DM (v:ByteArray):∀(bd:List Li) (F:List ByteArray),v∈bd.foldl ll F↔v∈F∨∃y,y∈bd∧y.k=1∧v∈ay y.ts
 |[],F=>by simp
 |y::r,F=>by
  rw [List.foldl_cons,DM v r]
  unfold ll
  split
  ·rename_i hk
   rw [gw]
   constructor
   ·rintro ((h|h)|⟨z,h1,h2⟩)
    ·exact .inl h
    ·exact .inr ⟨y,by simp,hk,h⟩
    ·exact .inr ⟨z,by simp [h1],h2⟩
   ·rintro (h|⟨z,h1,h2,h3⟩)
    ·exact .inl (.inl h)
    ·rcases List.mem_cons.1 h1 with h1|h1
     ·subst h1;exact .inl (.inr h3)
     ·exact .inr ⟨z,h1,h2,h3⟩
  ·rename_i hk
   constructor
   ·rintro (h|⟨z,h1,h2⟩)
    ·exact .inl h
    ·exact .inr ⟨z,by simp [h1],h2⟩
   ·rintro (h|⟨z,h1,h2,h3⟩)
    ·exact .inl h
    ·rcases List.mem_cons.1 h1 with h1|h1
     ·subst h1;exact absurd h2 hk
     ·exact .inr ⟨z,h1,h2,h3⟩
theorem Qt (hbd:bd.length≤16):Lo 52 (O Tryz.f134 0) ⟨[DL,(3,.ab),(4,.ak false),(11,sL bd),(12,sI ((bd.map Li.av).length:Nat)),(13,sI 0)],[(2001,.an [.J p,sA hd,sL bd])]⟩ (.ar 0) (Hp p hd bd (bd.foldl oz false) (bd.filter fun y=>decide (y.k=1))):=by
 have h:=(be (P:=Tryz.prog) (n:=52) (c:=O Tryz.f134 0) (k:=0) (l:=bd) (fun i a=>DK p hd bd a.1 a.2 i) (fun a=>Hp p hd bd a.1 a.2) pn (fun i a=>a.2.length≤i) (fun i a hi hI=>by
  have hx:bd[i]? =some bd[i]:=List.getElem?_eq_getElem hi
  have hx':0≤(i:Int)∧(bd.map Li.av)[Int.toNat (i:Int)]? =some bd[i].av:=⟨by omega,by rw [Int.toNat_natCast,List.getElem?_map,hx];rfl⟩
  obtain ⟨b,la⟩:=a
  simp only at hI
  cases b with
  |true=>
   obtain ⟨e,t,⟨rfl,rfl⟩,r⟩:=Qv p hd bd la i bd[i] hi (by omega) (by omega) hx'
   exact ⟨_,_,⟨rfl,bd[i],hx,rfl⟩,r⟩
  |false=>
   obtain ⟨e,t,⟨rfl,rfl⟩,r⟩:=Qu p hd bd la i bd[i] hi (by omega) (by omega) hx'
   exact ⟨_,_,⟨rfl,bd[i],hx,rfl⟩,r⟩) (fun i a y hy hI=>by
  unfold pn
  split
  ·simp;omega
  ·split<;>first|omega|(simp only;omega)) (fun a hI=>au Tryz.f134 2000) (false,[]) (by simp)).1
 obtain ⟨m1,m2⟩:=Hq bd (false,[])
 rw [m1,m2,List.nil_append] at h
 exact h.ez (b5 3 1003 16 rfl rfl)
theorem JF:Sp 134 [.al [.J p,sA hd,sL bd]] [] (.ak (jJ p hd bd)) []:=by
 have ha:aa [.al [.J p,sA hd,sL bd]]=true:=by simp [aa,aJ]
 have fin:∀{b:Bool},Rz 52 (ai Tryz.f134) ⟨[(0,.al [.J p,sA hd,sL bd])],[]⟩ .aR ⟨[(2,.ak b)],[]⟩→Sp 134 [.al [.J p,sA hd,sL bd]] [] (.ak b) []:=fun r=>
  sP Tryz.f134 ha r (.inr rfl)
 by_cases hE:eD p hd bd=0
 ·have hru:=(ky hE).1
  obtain ⟨_,q1,q2,q3,q4⟩:=jk hru
  have hl:=Qt p hd bd q2
  cases hb:bd.foldl oz false with
  |false=>
   rw [hb] at hl
   obtain ⟨_,_,⟨rfl,rfl⟩,r⟩:=Qq p hd bd _ (decide_eq_true hE) hl
   unfold jJ
   rw [hb,Bool.and_false,Bool.false_and]
   exact fin r
  |true=>
   rw [hb] at hl
   have hfl:(bd.filter fun y=>decide (y.k=1)).length≤bd.length:=List.length_filter_le _ _
   obtain ⟨l,s175,hlm⟩:=JB (bd.filter fun y=>decide (y.k=1)) (by omega) (fun y hy=>q4 y (List.mem_filter.1 hy).1)
   have hv:=bU (hd.map Ar.t)
   rw [List.length_map] at hv
   obtain ⟨_,_,⟨rfl,rb,rfl,hrb⟩,r⟩:=Qs p hd bd _ l (ay (hd.map Ar.t)) (by omega) (decide_eq_true hE) s175 (Wj ⟨#[]⟩ hd (by omega)) hl
   have e1:jJ p hd bd=rb:=by
    unfold jJ
    rw [hb,decide_eq_true hE,Bool.and_self,Bool.true_and,hrb]
    congr 1
    unfold bT
    refine List.all_congr rfl fun v=> ?_
    have hm:v∈iN bd↔v∈l:=by
     rw [hlm v,LK (fun y hy=>by simpa using (List.mem_filter.1 hy).2) v]
     unfold iN
     rw [DM v bd []]
     constructor
     ·rintro (h|⟨y,h1,h2,h3⟩)
      ·cases h
      ·exact ⟨y,List.mem_filter.2 ⟨h1,by simpa using h2⟩,h3⟩
     ·rintro ⟨y,h1,h2⟩
      exact .inr ⟨y,(List.mem_filter.1 h1).1,by simpa using (List.mem_filter.1 h1).2,h2⟩
    unfold bq
    rw [Bool.eq_iff_iff,decide_eq_true_eq,decide_eq_true_eq]
    exact hm
   have r':=r.p.fb [2] [] (st':=⟨[(2,.ak rb)],[]⟩) (cs:=[]) rfl trivial
   rw [e1]
   exact bK.qj (st':=⟨[(2,.ak rb)],[]⟩) (fn:=Tryz.f134) (c:=ai Tryz.f134) (by kernel_rfl) (by kernel_rfl) ha r' (.inr rfl) (by kernel_rfl) rfl
 ·obtain ⟨_,_,⟨rfl,rfl⟩,r⟩:=Qr p hd bd [] (decide_eq_false hE)
  unfold jJ
  rw [decide_eq_false hE,Bool.false_and,Bool.false_and]
  exact fin r
@[reducible,instance] def Wi (p:ByteArray) (hd:List Ar) (bd:List Li):=kT (JF p hd bd)
end
section
variable (l:List Ar)
noncomputable def pc (r:Ru):Bool:=jJ r.p r.hd r.bd
def yq (a b:ByteArray):Bool:=decide (b.size≤a.size)&&decide (a.extract 0 b.size=b)
theorem QC (a:Ar):Sp 219 [a.av] [] (.ak ((!decide (a.g=0)))) []:=aL Tryz.f219 0 6
@[reducible,instance] def Wo (a:Ar):=kT (QC a)
attribute [local simp,local grind] yq in
theorem Qy (a b:ByteArray):Sp 132 [.J a,.J b] [] (.ak ((yq a b))) []:=aL Tryz.f132 0 18
@[reducible,instance] def Wl (a b:ByteArray):=kT (Qy a b)
abbrev LM (l:List Ar) (i:Int):St:=⟨[(0,sA l),(1,.bZ 219 [] []),(7,sI ((l.map Ar.av).length:Nat)),(8,sI i)],[]⟩
abbrev LL (l:List Ru) (i:Int):St:=⟨[(0,sR l),(1,.bZ 134 [] []),(7,sI ((l.map Ru.av).length:Nat)),(8,sI i)],[]⟩
theorem QE (a b:ByteArray):Sp 79 [.J a,.J b] [] (.ak ((yq a b))) []:=aL Tryz.f79 0 8
@[reducible,instance] def aay (a b:ByteArray):=kT (QE a b)
theorem Qx (hsm:l.length≤9223372036854775807):En 19 (ai Tryz.f260) (⟨[(0,sA l),(1,.bZ 219 [] [])],[]⟩) (fun eo so=>eo= .aR∧∃rn:Int,so=⟨[(4,sI rn)],[]⟩∧(decide (0≤rn)=l.any (fun a=> !decide (a.g=0)))):=by
 have o0:=qx (P:=Tryz.prog) (n:=19) (c:=O Tryz.f260 0) (k:=0) (l:=l) (fun i=>LM l (i:Nat)) ⟨[],[]⟩ (fun rn:Nat=>⟨[(4,sI rn)],[]⟩) (fun a=> !decide (a.g=0)) (fun i hi=>aZ Tryz.f260 0 [0,1,7,8] [4]) (au Tryz.f260 0)
 exact aS Tryz.f260 0 [4]
attribute [local simp,local grind] pc in
theorem Qw (l:List Ru) (hsm:l.length≤9223372036854775807):En 19 (ai Tryz.f183) (⟨[(0,sR l),(1,.bZ 134 [] [])],[]⟩) (fun eo so=>eo= .aR∧∃rn:Int,so=⟨[(4,sI rn)],[]⟩∧(decide (0≤rn)=l.any pc)):=by
 have o0:=qx (P:=Tryz.prog) (n:=19) (c:=O Tryz.f183 0) (k:=0) (l:=l) (fun i=>LL l (i:Nat)) ⟨[],[]⟩ (fun rn:Nat=>⟨[(4,sI rn)],[]⟩) pc (fun i hi=>aZ Tryz.f183 0 [0,1,7,8] [4]) (au Tryz.f183 0)
 exact aS Tryz.f183 0 [4]
theorem QD:∃rn:Int,Sp 260 [sA l,.bZ 219 [] []] [] (sI rn) []∧(decide (0≤rn)=im l):=by
 by_cases hl:(l.map Ar.av).length≤maxLen
 ·obtain ⟨_,_,⟨rfl,rn,rfl,hr⟩,h⟩:=Qx l (by simpa [maxLen] using hl)
  exact ⟨rn,sP Tryz.f260 (by simp [aa,aJ]) h (.inr rfl),hr⟩
 ·exact ⟨if im l=true then 0 else-1,bK.dY _ ⟨_,by simp,false,.inl rfl⟩ fun h=>absurd h hl,by cases im l<;>simp⟩
instance Wp (l:List Ar):KE 260 [sA l,.bZ 219 [] []] (∃rn:Int,Sp 260 [sA l,.bZ 219 [] []] [] (sI rn) []∧(decide (0≤rn)=im l)) (True):=⟨fun _=>QD l⟩
theorem QA (l:List Ru) (hsm:l.length≤9223372036854775807):∃rn:Int,Sp 183 [sR l,.bZ 134 [] []] [] (sI rn) []∧(decide (0≤rn)=l.any pc):=by
 obtain ⟨_,_,⟨rfl,rn,rfl,hr⟩,h⟩:=Qw l hsm
 exact ⟨rn,sP Tryz.f183 (by simp [aa,aJ]) h (.inr rfl),hr⟩
instance Wm (l:List Ru):KE 183 [sR l,.bZ 134 [] []] (∃rn:Int,Sp 183 [sR l,.bZ 134 [] []] [] (sI rn) []∧(decide (0≤rn)=l.any pc)) ((l.length≤9223372036854775807)):=⟨fun hsm=>QA l hsm⟩
theorem QB:Sp 218 [sA l,.bZ 219 [] []] [] (.ak ((im l))) []:=aL Tryz.f218 0 9
@[reducible,instance] def Wn (l:List Ar):=kT (QB l)
theorem Qz (l:List Ru) (hsm:l.length≤9223372036854775807):Sp 133 [sR l,.bZ 134 [] []] [] (.ak ((l.any pc))) []:=aL Tryz.f133 0 9
theorem JG (p:ByteArray) (hd:List Ar) (bd:List Li):Sp 184 [.al [.J p,sA hd,sL bd]] [] (.ak ((im hd))) []:=aL Tryz.f184 0 6
end
section
variable (x:AV) (l:List AV)
abbrev Hr:St:=⟨[(0,.ab)],[]⟩
abbrev Hs:St:=⟨[(2,.ab)],[]⟩
theorem Wu:En 8 (ai Tryz.f45) Hr (fun e t=>e= .aR∧t=Hs):=au Tryz.f45 0
abbrev Wq:Nat×AV:=(2,.aF [] true)
abbrev Ht:St:=⟨[(0,.mB)],[]⟩
abbrev Hu:St:=⟨[Wq],[]⟩
theorem Wt:En 8 (ai Tryz.f45) Ht (fun e t=>e= .aR∧t=Hu):=au Tryz.f45 0
abbrev Wr:Nat×AV:=(0,.aF (x::l) false)
abbrev Hv:St:=⟨[Wr x l],[]⟩
abbrev Hw:List (Nat×AV):=[(2,.aw 7 0 (x::l).length)]
theorem Ws (hok:∀z,z∈x::l→c8 4 z) (hno:aa (x::l)=true) (hl:l.length<100000000):En 8 (ai Tryz.f45) (Hv x l) (fun e t=>e= .aR∧t=⟨(Hw x l),[(7,.aw 4 (x::l))]⟩):=au Tryz.f45 0
theorem Wx:En 8 (ai Tryz.f81) Hr (fun e t=>e= .aR∧t=Hs):=au Tryz.f81 0
theorem Ww:En 8 (ai Tryz.f81) Ht (fun e t=>e= .aR∧t=Hu):=au Tryz.f81 0
theorem Wv (hok:∀z,z∈x::l→c8 5 z) (hno:aa (x::l)=true) (hl:l.length<100000000):En 8 (ai Tryz.f81) (Hv x l) (fun e t=>e= .aR∧t=⟨(Hw x l),[(7,.aw 5 (x::l))]⟩):=au Tryz.f81 0
theorem Wz:En 8 (ai Tryz.f82) Hr (fun e t=>e= .aR∧t=Hs):=au Tryz.f82 0
theorem Wy:En 8 (ai Tryz.f82) Ht (fun e t=>e= .aR∧t=Hu):=au Tryz.f82 0
theorem QH (hok:∀z,z∈x::l→c8 16 z) (hno:aa (x::l)=true) (hl:l.length<100000000):En 8 (ai Tryz.f82) (Hv x l) (fun e t=>e= .aR∧t=⟨(Hw x l),[(7,.aw 16 (x::l))]⟩):=au Tryz.f82 0
theorem QG:En 8 (ai Tryz.f138) Hr (fun e t=>e= .aR∧t=Hs):=au Tryz.f138 0
theorem QF:En 8 (ai Tryz.f138) Ht (fun e t=>e= .aR∧t=Hu):=au Tryz.f138 0
theorem JH (hok:∀z,z∈x::l→c8 1 z) (hno:aa (x::l)=true) (hl:l.length<100000000):En 8 (ai Tryz.f138) (Hv x l) (fun e t=>e= .aR∧t=⟨(Hw x l),[(7,.aw 1 (x::l))]⟩):=au Tryz.f138 0
theorem k45 (l:List Tm) (hl:l.length<100000000):Sp 45 [sT l] [] (sT l) []:=by
 cases l with
 |nil=>
  refine bK.jv ?_ ?_
  ·obtain ⟨e,t,⟨rfl,rfl⟩,h⟩:=Wu
   exact bK.vS (sQ Tryz.f45 h) .ab
  ·obtain ⟨e,t,⟨rfl,rfl⟩,h⟩:=Wt
   exact bK.vS (sQ Tryz.f45 h) (.AY [] true)
 |cons x l=>
  obtain ⟨e,t,⟨rfl,rfl⟩,h⟩:=Ws (Tm.av x) (l.map Tm.av) (fun z hz=>by
   obtain ⟨y,_,rfl⟩:=List.mem_map.1 (show z∈(x::l).map Tm.av from hz)
   simp) (jh (x::l)) (by simp at hl;simp;omega)
  have h':=h.fb [2] [(7,.dz)] (st':=⟨[(2,sT (x::l))],[]⟩) (cs:=[((x::l).map Tm.av).length=((x::l).map Tm.av).length,aa ((x::l).map Tm.av)=true]) rfl ⟨rfl,jh _,trivial⟩
  exact sQ Tryz.f45 h'
@[reducible,instance] def abx (l:List Tm):=kF (k45 l)
theorem k81 (l:List Ar) (hl:l.length<100000000):Sp 81 [sA l] [] (sA l) []:=by
 cases l with
 |nil=>
  refine bK.jv ?_ ?_
  ·obtain ⟨e,t,⟨rfl,rfl⟩,h⟩:=Wx
   exact bK.vS (sQ Tryz.f81 h) .ab
  ·obtain ⟨e,t,⟨rfl,rfl⟩,h⟩:=Ww
   exact bK.vS (sQ Tryz.f81 h) (.AY [] true)
 |cons x l=>
  obtain ⟨e,t,⟨rfl,rfl⟩,h⟩:=Wv (Ar.av x) (l.map Ar.av) (fun z hz=>by
   obtain ⟨y,_,rfl⟩:=List.mem_map.1 (show z∈(x::l).map Ar.av from hz)
   simp) (qF (x::l)) (by simp at hl;simp;omega)
  have h':=h.fb [2] [(7,.dz)] (st':=⟨[(2,sA (x::l))],[]⟩) (cs:=[((x::l).map Ar.av).length=((x::l).map Ar.av).length,aa ((x::l).map Ar.av)=true]) rfl ⟨rfl,qF _,trivial⟩
  exact sQ Tryz.f81 h'
@[reducible,instance] def aby (l:List Ar):=kF (k81 l)
theorem k82 (l:List Li) (hl:l.length<100000000):Sp 82 [sL l] [] (sL l) []:=by
 cases l with
 |nil=>
  refine bK.jv ?_ ?_
  ·obtain ⟨e,t,⟨rfl,rfl⟩,h⟩:=Wz
   exact bK.vS (sQ Tryz.f82 h) .ab
  ·obtain ⟨e,t,⟨rfl,rfl⟩,h⟩:=Wy
   exact bK.vS (sQ Tryz.f82 h) (.AY [] true)
 |cons x l=>
  obtain ⟨e,t,⟨rfl,rfl⟩,h⟩:=QH (Li.av x) (l.map Li.av) (fun z hz=>by
   obtain ⟨y,_,rfl⟩:=List.mem_map.1 (show z∈(x::l).map Li.av from hz)
   simp) (dG (x::l)) (by simp at hl;simp;omega)
  have h':=h.fb [2] [(7,.dz)] (st':=⟨[(2,sL (x::l))],[]⟩) (cs:=[((x::l).map Li.av).length=((x::l).map Li.av).length,aa ((x::l).map Li.av)=true]) rfl ⟨rfl,dG _,trivial⟩
  exact sQ Tryz.f82 h'
theorem WA (l:List ByteArray) (hl:l.length<100000000):Sp 138 [sS l] [] (sS l) []:=by
 cases l with
 |nil=>
  refine bK.jv ?_ ?_
  ·obtain ⟨e,t,⟨rfl,rfl⟩,h⟩:=QG
   exact bK.vS (sQ Tryz.f138 h) .ab
  ·obtain ⟨e,t,⟨rfl,rfl⟩,h⟩:=QF
   exact bK.vS (sQ Tryz.f138 h) (.AY [] true)
 |cons x l=>
  obtain ⟨e,t,⟨rfl,rfl⟩,h⟩:=JH (AV.J x) (l.map AV.J) (fun z hz=>by
   obtain ⟨y,_,rfl⟩:=List.mem_map.1 (show z∈(x::l).map AV.J from hz)
   simp) (bw (x::l)) (by simp at hl;simp;omega)
  have h':=h.fb [2] [(7,.dz)] (st':=⟨[(2,sS (x::l))],[]⟩) (cs:=[((x::l).map AV.J).length=((x::l).map AV.J).length,aa ((x::l).map AV.J)=true]) rfl ⟨rfl,bw _,trivial⟩
  exact sQ Tryz.f138 h'
end
section
variable (x:Ex)
theorem QM:En 8 (ai Tryz.f188) ⟨[(0,.ab)],[]⟩ (fun e t=>e= .aR∧t=⟨[(2,.ab)],[]⟩):=au Tryz.f188 0
theorem QL:En 8 (ai Tryz.f188) ⟨[(0,.mB)],[]⟩ (fun e t=>e= .aR∧t=⟨[(2,.aF [] true)],[]⟩):=au Tryz.f188 0
theorem QK (x:AV) (l:List AV) (hok:∀z,z∈x::l→c8 6 z) (hno:aa (x::l)=true) (hl:l.length<100000000):En 8 (ai Tryz.f188) ⟨[(0,.aF (x::l) false)],[]⟩ (fun e t=>e= .aR∧t=⟨[(2,.aw 45007 0 (x::l).length)],[(45007,.aw 6 (x::l))]⟩):=au Tryz.f188 45000
theorem QO:Sp 188 [.aF [] false] [] (.aF [] false) []:=by
 refine bK.jv ?_ ?_
 ·obtain ⟨e,t,⟨rfl,rfl⟩,h⟩:=QM
  exact bK.vS (sQ Tryz.f188 h) .ab
 ·obtain ⟨e,t,⟨rfl,rfl⟩,h⟩:=QL
  exact bK.vS (sQ Tryz.f188 h) (.AY [] true)
theorem QN (l:List Ex) (hne:l≠[]) (hl:l.length<100000000):Sp 188 [sE l] [] (.aw 45007 0 (l.map Ex.av).length) [(45007,.aw 6 (l.map Ex.av))]:=by
 cases l with
 |nil=>exact absurd rfl hne
 |cons x l=>
  obtain ⟨e,t,⟨rfl,rfl⟩,h⟩:=QK (Ex.av x) (l.map Ex.av) (fun z hz=>by
   obtain ⟨y,_,rfl⟩:=List.mem_map.1 (show z∈(x::l).map Ex.av from hz)
   simp) (qG (x::l)) (by simp at hl;simp;omega)
  exact bK.CB (st':=⟨[(2,.aw 45007 0 ((x::l).map Ex.av).length)],[(45007,.aw 6 ((x::l).map Ex.av))]⟩) (fn:=Tryz.f188) (c:=ai Tryz.f188) (by kernel_rfl) (by kernel_rfl) rfl rfl h.p (.inr rfl) (by kernel_rfl)
abbrev nl:Nat×AV:=(1,.aA 1 0 0)
abbrev lw:Nat×AV:=(2,.aA 2 0 0)
abbrev se:Nat×Ob:=(45007,.aw 6 (x.ax.map Ex.av))
theorem WC (i:Nat) (y:Ex) (hi:i<x.ax.length) (hk:x.ax.length<100000000) (hx:(x.ax.map Ex.av)[0+Int.toNat (i:Int)]? =some (.al y.ac)) (hns:aa ((x.ax.map Ex.av).set (0+Int.toNat (i:Int)) (.al y.ac))=true) (k141:Sp 141 [.al y.ac] [] (.al y.ac) []):EN 26 (O Tryz.f141 0) ⟨[nl,lw,(10,sI ((x.ax.map Ex.av).length:Nat)),(11,sI (i:Int))],[(1,.an [sJ x.op,.J x.t.v,sJ x.t.k,sI x.t.n,.J x.t.s,.aw 45007 0 (x.ax.map Ex.av).length]),(2,.an [sJ 0,.J ⟨#[]⟩,sJ 0,sI 0,.J ⟨#[]⟩,.ab]),se x]⟩ ⟨[nl,lw,(10,sI ((x.ax.map Ex.av).length:Nat)),(11,sI ((i+1:Nat):Int))],[(1,.an [sJ x.op,.J x.t.v,sJ x.t.k,sI x.t.n,.J x.t.s,.aw 45007 0 (x.ax.map Ex.av).length]),(2,.an [sJ 0,.J ⟨#[]⟩,sJ 0,sI 0,.J ⟨#[]⟩,.ab]),(45007,.aw 6 ((x.ax.map Ex.av).set i (.al y.ac)))]⟩:=by
 have o0:=k141
 exact au Tryz.f141 0
theorem WB:En 26 (O Tryz.f141 0) ⟨[nl,lw,(10,sI ((x.ax.map Ex.av).length:Nat)),(11,sI ((x.ax.length:Nat):Int))],[(1,.an [sJ x.op,.J x.t.v,sJ x.t.k,sI x.t.n,.J x.t.s,.aw 45007 0 (x.ax.map Ex.av).length]),(2,.an [sJ 0,.J ⟨#[]⟩,sJ 0,sI 0,.J ⟨#[]⟩,.ab]),se x]⟩ (fun e t=>e= .ar 0∧t=⟨[nl,lw],[(1,.an [sJ x.op,.J x.t.v,sJ x.t.k,sI x.t.n,.J x.t.s,.aw 45007 0 (x.ax.map Ex.av).length]),(2,.an [sJ 0,.J ⟨#[]⟩,sJ 0,sI 0,.J ⟨#[]⟩,.ab]),se x]⟩):=au Tryz.f141 0
theorem WD:En 26 (O Tryz.f141 0) ⟨[nl,lw,(10,sI 0),(11,sI 0)],[(1,.an [sJ x.op,.J x.t.v,sJ x.t.k,sI x.t.n,.J x.t.s,.aF [] false]),(2,.an [sJ 0,.J ⟨#[]⟩,sJ 0,sI 0,.J ⟨#[]⟩,.ab])]⟩ (fun e t=>e= .ar 0∧t=⟨[nl,lw],[(1,.an [sJ x.op,.J x.t.v,sJ x.t.k,sI x.t.n,.J x.t.s,.aF [] false]),(2,.an [sJ 0,.J ⟨#[]⟩,sJ 0,sI 0,.J ⟨#[]⟩,.ab])]⟩):=au Tryz.f141 0
theorem LN (hk:x.ax.length<100000000) (k141:∀y,y∈x.ax→Sp 141 [.al y.ac] [] (.al y.ac) []):Lo 26 (O Tryz.f141 0) ⟨[nl,lw,(10,sI ((x.ax.map Ex.av).length:Nat)),(11,sI 0)],[(1,.an [sJ x.op,.J x.t.v,sJ x.t.k,sI x.t.n,.J x.t.s,.aw 45007 0 (x.ax.map Ex.av).length]),(2,.an [sJ 0,.J ⟨#[]⟩,sJ 0,sI 0,.J ⟨#[]⟩,.ab]),se x]⟩ (.ar 0) ⟨[nl,lw],[(1,.an [sJ x.op,.J x.t.v,sJ x.t.k,sI x.t.n,.J x.t.s,.aw 45007 0 (x.ax.map Ex.av).length]),(2,.an [sJ 0,.J ⟨#[]⟩,sJ 0,sI 0,.J ⟨#[]⟩,.ab]),se x]⟩:=by
 have h:=bJ.rX (P:=Tryz.prog) (n:=26) (c:=O Tryz.f141 0) (e:= .ar 0) (st':=⟨[nl,lw],[(1,.an [sJ x.op,.J x.t.v,sJ x.t.k,sI x.t.n,.J x.t.s,.aw 45007 0 (x.ax.map Ex.av).length]),(2,.an [sJ 0,.J ⟨#[]⟩,sJ 0,sI 0,.J ⟨#[]⟩,.ab]),se x]⟩) (st:=fun i=>⟨[nl,lw,(10,sI ((x.ax.map Ex.av).length:Nat)),(11,sI (i:Int))],[(1,.an [sJ x.op,.J x.t.v,sJ x.t.k,sI x.t.n,.J x.t.s,.aw 45007 0 (x.ax.map Ex.av).length]),(2,.an [sJ 0,.J ⟨#[]⟩,sJ 0,sI 0,.J ⟨#[]⟩,.ab]),se x]⟩) (N:=x.ax.length) ?_ ?_
 ·exact h
 ·intro i hi
  have hx:x.ax[i]? =some x.ax[i]:=List.getElem?_eq_getElem hi
  have hx':(x.ax.map Ex.av)[0+Int.toNat (i:Int)]? =some (.al (x.ax[i]).ac):=by rw [Nat.zero_add,←Ex.de];exact dD Ex.av hx
  have hset:(x.ax.map Ex.av).set i (.al (x.ax[i]).ac)=(x.ax.map Ex.av):=by
   rw [←Ex.de]
   have:(x.ax.map Ex.av)[i]? =some (x.ax[i]).av:=by rw [List.getElem?_map,hx];rfl
   apply List.ext_getElem?
   intro j
   rw [List.getElem?_set]
   split
   ·rename_i hij;subst hij;split
    ·exact this.symm
    ·rename_i hlt;rw [List.getElem?_eq_none (by omega)]
   ·rfl
  obtain ⟨e,t,⟨rfl,rfl⟩,h⟩:=WC x i x.ax[i] hi hk hx' (by rw [Nat.zero_add,Int.toNat_natCast,hset];exact qG _) (k141 _ (List.getElem_mem hi))
  rw [hset] at h
  exact h
 ·obtain ⟨e,t,⟨rfl,rfl⟩,h⟩:=WB x
  exact .bD h (by simp)
theorem QJ (hz:x.ax=[]) (k188:Sp 188 [.aF [] false] [] (.aF [] false) []) (l141_0q:Lo 26 (O Tryz.f141 0) ⟨[nl,lw,(10,sI 0),(11,sI 0)],[(1,.an [sJ x.op,.J x.t.v,sJ x.t.k,sI x.t.n,.J x.t.s,.aF [] false]),(2,.an [sJ 0,.J ⟨#[]⟩,sJ 0,sI 0,.J ⟨#[]⟩,.ab])]⟩ (.ar 0) ⟨[nl,lw],[(1,.an [sJ x.op,.J x.t.v,sJ x.t.k,sI x.t.n,.J x.t.s,.aF [] false]),(2,.an [sJ 0,.J ⟨#[]⟩,sJ 0,sI 0,.J ⟨#[]⟩,.ab])]⟩):En 26 (ai Tryz.f141) ⟨[(0,.al [sJ x.op,.J x.t.v,sJ x.t.k,sI x.t.n,.J x.t.s,.aF [] false])],[]⟩ (fun e t=>e= .aR∧t=⟨[lw],[(2,.an [sJ x.op,.J x.t.v,sJ x.t.k,sI x.t.n,.J x.t.s,.aF [] false])]⟩):=by
 have o0:=k188
 have o1:=l141_0q
 exact au Tryz.f141 0
theorem QI (k188:Sp 188 [sE x.ax] [] (.aw 45007 0 (x.ax.map Ex.av).length) [se x]) (l141_0q:Lo 26 (O Tryz.f141 0) ⟨[nl,lw,(10,sI ((x.ax.map Ex.av).length:Nat)),(11,sI 0)],[(1,.an [sJ x.op,.J x.t.v,sJ x.t.k,sI x.t.n,.J x.t.s,.aw 45007 0 (x.ax.map Ex.av).length]),(2,.an [sJ 0,.J ⟨#[]⟩,sJ 0,sI 0,.J ⟨#[]⟩,.ab]),se x]⟩ (.ar 0) ⟨[nl,lw],[(1,.an [sJ x.op,.J x.t.v,sJ x.t.k,sI x.t.n,.J x.t.s,.aw 45007 0 (x.ax.map Ex.av).length]),(2,.an [sJ 0,.J ⟨#[]⟩,sJ 0,sI 0,.J ⟨#[]⟩,.ab]),se x]⟩):En 26 (ai Tryz.f141) ⟨[(0,.al x.ac)],[]⟩ (fun e t=>e= .aR∧t=⟨[lw],[(2,.an x.ac)]⟩):=by
 have o0:=k188
 have o1:=l141_0q
 exact au Tryz.f141 0
end
abbrev WE (x:Ex):St:=⟨[(2,.aA 2 0 0)],[(2,.an x.ac)]⟩
theorem QP (x:Ex) (hk:x.ax.length<100000000) (ih:∀y,y∈x.ax→Sp 141 [.al y.ac] [] (.al y.ac) []):Sp 141 [.al x.ac] [] (.al x.ac) []:=by
 by_cases hz:x.ax=[]
 ·have e:x.ac=[sJ x.op,.J x.t.v,sJ x.t.k,sI x.t.n,.J x.t.s,.aF [] false]:=by simp [Ex.ac,CJ,hz]
  rw [e]
  obtain ⟨e,s,⟨rfl,rfl⟩,h0⟩:=WD x
  obtain ⟨e,s,⟨rfl,rfl⟩,h⟩:=QJ x hz QO (.bD h0 (by simp))
  exact sQ Tryz.f141 h
 ·obtain ⟨e,s,⟨rfl,rfl⟩,h⟩:=QI x (QN x.ax hz hk) (LN x hk ih)
  exact bK.jb (st':=(WE x)) (fn:=Tryz.f141) (c:=ai Tryz.f141) (by kernel_rfl) (by kernel_rfl) rfl h (.inr rfl) (by kernel_rfl) rfl
mutual
theorem LO:∀(x:Ex),x.af.length<100000000→Sp 141 [.al x.ac] [] (.al x.ac) []
 | .mk o t ks,hB=>by
   have hB':(t::Ex.bv ks).length<100000000:=hB
   have hk:=Ex.gL ks
   simp only [List.length_cons] at hB'
   exact QP (.mk o t ks) (by show ks.length<_;omega) (fun y hy=>JI ks (by omega) y hy)
theorem JI:∀(l:List Ex),(Ex.bv l).length<100000000→∀(y:Ex),y∈l→Sp 141 [.al y.ac] [] (.al y.ac) []
 |[],_,y,hy=>by simp at hy
 |x::r,hl,y,hy=>by
  simp only [Ex.bv,List.length_append] at hl
  rcases List.mem_cons.1 hy with e|e
  ·rw [e];exact LO x (by omega)
  ·exact JI r (by omega) y e
end
theorem b84 (x:Li) (h0:x.ts.length<100000000) (h1:x.l.af.length<100000000) (h2:x.r.af.length<100000000):En 18 (ai Tryz.f84) ⟨[(0,x.av)],[]⟩ (fun e t=>e= .aR∧t=⟨[(2,.aA 2 0 0)],[(2,.an x.ac)]⟩):=by
 have o0:=LO (Li.l x) (by assumption)
 have o1:=LO (Li.r x) (by assumption)
 exact au Tryz.f84 0
theorem k84 (x:Li) (hB:x.af.length<100000000):Sp 84 [x.av] [] x.av []:=by
 unfold Li.af at hB
 simp only [List.length_append] at hB
 obtain ⟨e,s,⟨rfl,rfl⟩,h⟩:=b84 x (by omega) (by omega) (by omega)
 exact bK.jb (st':=⟨[(2,.aA 2 0 0)],[(2,.an x.ac)]⟩) (fn:=Tryz.f84) (c:=ai Tryz.f84) (by kernel_rfl) (by kernel_rfl) (by simp [aa,et]) h (.inr rfl) (by kernel_rfl) (et x)
@[reducible,instance] def abB (x:Li):=kF (k84 x)
section
variable (l:List Li) (p:ByteArray) (hd:List Ar) (bd:List Li) (k i:Int) (rs:List Ru) (es:List Ed)
@[reducible] def ep (p:ByteArray) (hd:List Ar) (bd:List Li) (k i:Int) (es:List Ed):List (Nat×Ob):=[(100000,.an [.J p,sA hd,sL bd]),(100001,.an [sJ k]),(100002,.an [sI i]),(100003,.an [.aX 4 (es.map Ed.av)])]
def xl (x:Li) (p:ByteArray) (k i:Int):Ed:=⟨p,x.p,if x.k=2 then 2 else k,i⟩
def yr (p:ByteArray) (k i:Int) (a:List Ed) (x:Li):List Ed:=if x.k=1∨x.k=2 then a++[xl x p k i] else a
def oD (p:ByteArray) (k i:Int) (a:List Ed) (l:List Li):List Ed:=l.foldl (yr p k i) a
def Bn (r:Ru) (m:Bool):Int:=if im r.hd=true then 3 else if m=true then 4 else 1
theorem wJ (a:List Ed) (x:Li):(yr p k i a x).length≤a.length+1:=by unfold yr;split<;>simp
theorem wI (p:ByteArray) (k i:Int):∀(l:List Li) (a:List Ed),(oD p k i a l).length≤a.length+l.length
 |[],a=>by simp [oD]
 |x::r,a=>by
  have h:=wI p k i r (yr p k i a x)
  have:=wJ p k i a x
  unfold oD at h⊢
  simp only [List.foldl_cons,List.length_cons]
  omega
theorem z7 (r:Ru) (i:Nat) (a:List Ed):r.bd.foldl (fG r i) a=oD r.p (Bn r (jJ r.p r.hd r.bd)) (i:Int) a r.bd:=by
 unfold oD
 congr 1
theorem QY (x:Li) (p:ByteArray) (hd:List Ar) (bd:List Li) (k i:Int):EN 23 (ai Tryz.f221) ⟨[(0,x.av),(1,.aA 100000 0 0),(2,.aA 100001 0 0),(3,.aA 100002 0 0),(4,.aA 100003 0 0)],[(100000,.an [.J p,sA hd,sL bd]),(100001,.an [sJ k]),(100002,.an [sI i]),(100003,.an [.ab])]⟩ ⟨[],[(100000,.an [.J p,sA hd,sL bd]),(100001,.an [sJ k]),(100002,.an [sI i]),(100003,.an [.aw 60022 0 1]),(60022,.aw 4 [(xl x p k i).av])]⟩:=by
 exact zs 60000<|zB (Li.k x=2) (fun h0=>zh (Z9 4 48 [.al [.J p,.J x.2,sJ 2,sI i]])<|zt rT<|zh rT<|zh rT<|zh rT<|zq (s:=St.mk [] [(100000,Ob.an [AV.J p,sA hd,sL bd]),(100001,Ob.an [sJ k]),(100002,Ob.an [sI i]),(100003,Ob.an [AV.aw 60022 0 (0+List.length [AV.al [AV.J p,AV.J x.2,sJ 2,sI i]])]),(60022,Ob.aw 4 [AV.al [AV.J p,AV.J x.2,sJ 2,sI i]])]) ⟨rfl,by first|(rw [xl,if_pos (of_decide_eq_true h0)];rfl)|(rw [xl,if_neg (of_decide_eq_false h0)];rfl)⟩) fun h0=>zh (Z9 4 48 [.al [.J p,.J x.2,sJ k,sI i]])<|zt rT<|zh rT<|zh rT<|zh rT<|zq (s:=St.mk [] [(100000,Ob.an [AV.J p,sA hd,sL bd]),(100001,Ob.an [sJ k]),(100002,Ob.an [sI i]),(100003,Ob.an [AV.aw 60022 0 (0+List.length [AV.al [AV.J p,AV.J x.2,sJ k,sI i]])]),(60022,Ob.aw 4 [AV.al [AV.J p,AV.J x.2,sJ k,sI i]])]) ⟨rfl,by first|(rw [xl,if_pos (of_decide_eq_true h0)];rfl)|(rw [xl,if_neg (of_decide_eq_false h0)];rfl)⟩
theorem QX (x:Li) (p:ByteArray) (hd:List Ar) (bd:List Li) (k i:Int) (es:List Ed) (hl:es.length<1000000000):EN 23 (ai Tryz.f221) ⟨[(0,x.av),(1,.aA 100000 0 0),(2,.aA 100001 0 0),(3,.aA 100002 0 0),(4,.aA 100003 0 0)],[(100000,.an [.J p,sA hd,sL bd]),(100001,.an [sJ k]),(100002,.an [sI i]),(100003,.an [.aw 60500 0 (es.map Ed.av).length]),(60500,.aw 4 (es.map Ed.av))]⟩ ⟨[],[(100000,.an [.J p,sA hd,sL bd]),(100001,.an [sJ k]),(100002,.an [sI i]),(100003,.an [.aw 60022 0 ((es.map Ed.av).length+1)]),(60022,.aw 4 (es.map Ed.av++[(xl x p k i).av]))]⟩:=by
 exact zs 60000<|zB (Li.k x=2) (fun h0=>zh (Z' 4 48 [.al [.J p,.J x.2,sJ (2:Int),sI i]] (List.length (es.map Ed.av)) (List.map Ed.av es))<|zt rT<|zh rT<|zh rT<|zh (zN (List.map Ed.av es++[.al [.J p,.J x.2,sJ 2,sI i]]))<|zq (s:=St.mk [] [(100000,Ob.an [AV.J p,sA hd,sL bd]),(100001,Ob.an [sJ k]),(100002,Ob.an [sI i]),(100003,Ob.an [AV.aw 60022 0 (List.length (List.map Ed.av es)+List.length [AV.al [AV.J p,AV.J x.2,sJ 2,sI i]])]),(60022,Ob.aw 4 (List.map Ed.av es++[AV.al [AV.J p,AV.J x.2,sJ 2,sI i]]))]) ⟨rfl,by first|(rw [xl,if_pos (of_decide_eq_true h0)];rfl)|(rw [xl,if_neg (of_decide_eq_false h0)];rfl)⟩) fun h0=>zh (Z' 4 48 [.al [.J p,.J x.2,sJ k,sI i]] (List.length (es.map Ed.av)) (List.map Ed.av es))<|zt rT<|zh rT<|zh rT<|zh (zN (List.map Ed.av es++[.al [.J p,.J x.2,sJ k,sI i]]))<|zq (s:=St.mk [] [(100000,Ob.an [AV.J p,sA hd,sL bd]),(100001,Ob.an [sJ k]),(100002,Ob.an [sI i]),(100003,Ob.an [AV.aw 60022 0 (List.length (List.map Ed.av es)+List.length [AV.al [AV.J p,AV.J x.2,sJ k,sI i]])]),(60022,Ob.aw 4 (List.map Ed.av es++[AV.al [AV.J p,AV.J x.2,sJ k,sI i]]))]) ⟨rfl,by first|(rw [xl,if_pos (of_decide_eq_true h0)];rfl)|(rw [xl,if_neg (of_decide_eq_false h0)];rfl)⟩
theorem wH {P:Program} {n m:Nat} {c:Code} {st:St} {e:cw} {p:ByteArray} {hd:List Ar} {bd:List Li} {k i:Int} {es:List Ed} (h:cf P n c st e ⟨[],[(100000,.an [.J p,sA hd,sL bd]),(100001,.an [sJ k]),(100002,.an [sI i]),(100003,.an [.aw 60022 0 m]),(60022,.aw 4 (es.map Ed.av))]⟩)
  (hm:m=(es.map Ed.av).length) (h0:0<m):cf P n c st e ⟨[],ep p hd bd k i es⟩:=by
 subst hm
 have ht:(es.map Ed.av).take (es.map Ed.av).length=es.map Ed.av:=List.take_length
 have a:=h.gV (iH (n:=n) (st:=⟨[],[(100000,.an [.J p,sA hd,sL bd]),(100001,.an [sJ k]),(100002,.an [sI i]),(100003,.an [.aw 60022 0 (es.map Ed.av).length]),(60022,.aw 4 (es.map Ed.av))]⟩) 100003 0 60022 (o:= .an [.aw 60022 0 (es.map Ed.av).length]) rfl rfl rfl h0 (Nat.le_refl _) (by rw [ht];exact ye es) (by simp [mid]))
 rw [ht] at a
 exact a.fb [] [K1 100000,K1 100001,K1 100002,K0 100003] (cs:=[aa [AV.J p,sA hd,sL bd]=true,aa [sJ k]=true,aa [sI i]=true]) rfl ⟨rfl,rfl,rfl,trivial⟩
theorem DP:∀id o,(id,o)∈ep p hd bd k i es→bg (gX (ep p hd bd k i es)) o=o:=by
 intro id o hm
 simp only [ep,List.mem_cons,Prod.mk.injEq,List.not_mem_nil,or_false] at hm
 rcases hm with ⟨rfl,rfl⟩|⟨rfl,rfl⟩|⟨rfl,rfl⟩|⟨rfl,rfl⟩<;>rfl
theorem WG (x:Li) (p:ByteArray) (hd:List Ar) (bd:List Li) (k i:Int) (es:List Ed) (hl:es.length<1000000000):
  Sp 221 [x.av,.aA 100000 0 0,.aA 100001 0 0,.aA 100002 0 0,.aA 100003 0 0] (ep p hd bd k i es) (.bC []) (ep p hd bd k i (es++[xl x p k i])):=by
 have fin:Rz 23 (ai Tryz.f221) ⟨[(0,x.av),(1,.aA 100000 0 0),(2,.aA 100001 0 0),(3,.aA 100002 0 0),(4,.aA 100003 0 0)],ep p hd bd k i es⟩ .aj ⟨[],ep p hd bd k i (es++[xl x p k i])⟩→Sp 221 [x.av,.aA 100000 0 0,.aA 100001 0 0,.aA 100002 0 0,.aA 100003 0 0] (ep p hd bd k i es) (.bC []) (ep p hd bd k i (es++[xl x p k i])):=fun h=>
  sG Tryz.f221 (DP p hd bd k i es) h (.inl rfl)
 by_cases hn:es=[]
 ·subst hn
  obtain ⟨e,t,⟨rfl,rfl⟩,h⟩:=QY x p hd bd k i
  exact fin ((wH (es:=[xl x p k i]) h rfl (by simp)).ez (gJ (st:=⟨_,ep p hd bd k i []⟩) 100003 0 (sz:=4) rfl rfl))
 ·obtain ⟨e,t,⟨rfl,rfl⟩,h⟩:=QX x p hd bd k i es hl
  rw [show es.map Ed.av++[(xl x p k i).av]=(es++[xl x p k i]).map Ed.av from by simp] at h
  exact fin ((wH (es:=es++[xl x p k i]) h (by simp) (by simp)).ez (gm (st:=⟨_,ep p hd bd k i es⟩) 100003 0 60500 (sz:=4) rfl rfl (by simpa using hn) rfl (by simp [mid])))
instance abD:KI 221 [100000,100001,100002,100003]:=⟨⟩
@[reducible,instance] def aaB (x:Li) (p:ByteArray) (hd:List Ar) (bd:List Li) (k i:Int) (es:List Ed):=tF (WG x p hd bd k i es)
abbrev Hx (l:List Li) (p:ByteArray) (hd:List Ar) (bd:List Li) (k i:Int) (es:List Ed) (j:Int):St:=⟨[(1,.bZ 221 [] [.aA 100000 0 0,.aA 100001 0 0,.aA 100002 0 0,.aA 100003 0 0]),(6,sL l),(7,sI ((l.map Li.av).length:Nat)),(8,sI j)],ep p hd bd k i es⟩
attribute [local simp,local grind] yr in
theorem WI (j:Nat) (y:Li) (hi:j<l.length) (hl:es.length<1000000000) (hsm:l.length≤9223372036854775807) (hx:0≤(j:Int)∧(l.map Li.av)[Int.toNat (j:Int)]? =some y.av):En 24 (O Tryz.f220 0) ((Hx l p hd bd k i es j)) (fun e t=>e= .aj∧t=Hx l p hd bd k i (yr p k i es y) ((j+1:Nat):Int)):=au Tryz.f220 60000
theorem LQ (hl:es.length+l.length<1000000000):
  Lo 24 (O Tryz.f220 0) (Hx l p hd bd k i es 0) (.ar 0) ⟨[],ep p hd bd k i (oD p k i es l)⟩:=
 (be (P:=Tryz.prog) (n:=24) (c:=O Tryz.f220 0) (l:=l) (k:=0) (fun j g=>Hx l p hd bd k i g (j:Nat)) (fun g=>⟨[],ep p hd bd k i g⟩) (yr p k i) (fun j g=>g.length≤es.length+j) (fun j g hj hg=>by
  have hy:l[j]? =some l[j]:=List.getElem?_eq_getElem hj
  obtain ⟨e,t,⟨rfl,rfl⟩,h⟩:=WI l p hd bd k i g j l[j] hj (by omega) (by omega) ⟨by omega,dD Li.av hy⟩
  exact ⟨_,_,⟨rfl,_,hy,rfl⟩,h⟩) (fun j g y _ hg=>by have:=wJ p k i g y;omega) (fun g _=>au Tryz.f220 60000) es (by simp)).1
theorem WF (hl:es.length+l.length<1000000000):EN 24 (ai Tryz.f220) ⟨[(0,sL l),(1,.bZ 221 [] [.aA 100000 0 0,.aA 100001 0 0,.aA 100002 0 0,.aA 100003 0 0])],ep p hd bd k i es⟩ ⟨[],ep p hd bd k i (oD p k i es l)⟩:=by
 have o0:=LQ l p hd bd k i es (by assumption)
 exact au Tryz.f220 60000
abbrev Hy:Nat×Ob:=(3,.an [.aX 4 (es.map Ed.av)])
@[reducible] def eq (p:ByteArray) (hd:List Ar) (bd:List Li) (k i:Int) (es:List Ed):List (Nat×Ob):=[(5,.an [.J p,sA hd,sL bd]),(6,.an [sJ k]),(4,.an [sI i]),Hy es]
theorem LP (hl:es.length+l.length<1000000000):
  Sp 220 [sL l,.bZ 221 [] [.aA 5 0 0,.aA 6 0 0,.aA 4 0 0,.aA 3 0 0]] (eq p hd bd k i es) (.bC []) (eq p hd bd k i (oD p k i es l)):=by
 obtain ⟨e,t,⟨rfl,rfl⟩,h⟩:=WF l p hd bd k i es hl
 have hh:Sp 220 [sL l,.bZ 221 [] [.aA 100000 0 0,.aA 100001 0 0,.aA 100002 0 0,.aA 100003 0 0]] (ep p hd bd k i es) (.bC []) (ep p hd bd k i (oD p k i es l)):=
  sG Tryz.f220 (DP p hd bd k i es) h (.inl rfl)
 exact hh.gK [(100000,5,.an [.J p,sA hd,sL bd]),(100001,6,.an [sJ k]),(100002,4,.an [sI i]),(100003,3,.an [.aX 4 (es.map Ed.av)])] [(100000,5),(100001,6),(100002,4),(100003,3)] rfl rfl rfl
abbrev nq:Nat×AV:=(3,.aA 3 0 0)
abbrev DN (rs:List Ru) (es:List Ed) (i:Int):St:=⟨[nq,(8,sR rs),(9,sI ((rs.map Ru.av).length:Nat)),(10,sI i)],[Hy es]⟩
theorem WH (i:Nat) (y:Ru) (hi:i<rs.length) (hl:es.length+16<1000000000) (hb:y.bd.length≤16) (hsm:rs.length≤2000000) (hx:0≤(i:Int)∧(rs.map Ru.av)[Int.toNat (i:Int)]? =some y.av):En 25 (O Tryz.f185 0) ((DN rs es i)) (fun e t=>e= .aj∧t=DN rs (oD y.p (Bn y (jJ y.p y.hd y.bd)) (i:Int) es y.bd) ((i+1:Nat):Int)):=by
 have hs0:=JG y.1 y.2 y.3
 have u0:decide ((↑i:Int)<(↑(List.length (List.map Ru.av rs)):Int))=true:=by simp;omega
 have u1:IntKind.wrap .i64 ((↑i:Int)+1)=(↑i:Int)+1:=bA (by omega) (by omega)
 refine z0<|zt u0<|ze hx<|zc hs0<|?_
 cases hb1:im y.2 with
 |true=>
  rw [hb1] at hs0
  have hs2:=LP y.3 y.1 y.2 y.3 3 ((↑i:Int)) (es) (by omega)
  exact zc hs2<|zh u1<|zq (s:=St.mk [nq,(8,sR rs),(9,sI (↑(rs.map Ru.av).length:Int)),(10,sI ((i:Int)+1))] [(3,.an [.aX 4 (List.map Ed.av (oD y.1 3 (i:Int) es y.3))])]) ⟨rfl,by unfold Bn;split<;>first|rfl|(split<;>first|rfl|simp_all)|simp_all⟩ (tb:=[K0 3])
 |false=>
  rw [hb1] at hs0
  have hs2:=JF y.1 y.2 y.3
  cases hb3:jJ y.1 y.2 y.3 with
  |true=>
   rw [hb3] at hs2
   have hs4:=LP y.3 y.1 y.2 y.3 4 ((↑i:Int)) (es) (by omega)
   exact zc hs2<|zc hs4<|zh u1<|zq (s:=St.mk [nq,(8,sR rs),(9,sI (↑(rs.map Ru.av).length:Int)),(10,sI ((i:Int)+1))] [(3,.an [.aX 4 (List.map Ed.av (oD y.1 4 (i:Int) es y.3))])]) ⟨rfl,by unfold Bn;split<;>first|rfl|(split<;>first|rfl|simp_all)|simp_all⟩ (tb:=[K0 3])
  |false=>
   rw [hb3] at hs2
   have hs4:=LP y.3 y.1 y.2 y.3 1 ((↑i:Int)) (es) (by omega)
   exact zc hs2<|zc hs4<|zh u1<|zq (s:=St.mk [nq,(8,sR rs),(9,sI (↑(rs.map Ru.av).length:Int)),(10,sI ((i:Int)+1))] [(3,.an [.aX 4 (List.map Ed.av (oD y.1 1 (i:Int) es y.3))])]) ⟨rfl,by unfold Bn;split<;>first|rfl|(split<;>first|rfl|simp_all)|simp_all⟩ (tb:=[K0 3])
theorem DO (hb:∀r:Ru,r∈rs→r.bd.length≤16) (hsm:rs.length≤2000000):
  Lo 25 (O Tryz.f185 0) (DN rs [] 0) (.ar 0) ⟨[nq],[(3,.an [.aX 4 ((ni rs).map Ed.av)])]⟩∧(ni rs).length≤16*rs.length:=by
 obtain ⟨h,_,h2⟩:=be (P:=Tryz.prog) (n:=25) (c:=O Tryz.f185 0) (l:=rs) (k:=0) (fun j g=>DN rs g.2 (j:Nat)) (fun g=>⟨[nq],[(3,.an [.aX 4 (g.2.map Ed.av)])]⟩) oy (fun j g=>g.1=j∧g.2.length≤16*j) (fun j g hj hg=>by
  have hy:rs[j]? =some rs[j]:=List.getElem?_eq_getElem hj
  obtain ⟨e,t,⟨rfl,rfl⟩,h⟩:=WH rs g.2 j rs[j] hj (by omega) (hb _ (List.getElem_mem hj)) hsm ⟨by omega,dD Ru.av hy⟩
  exact ⟨_,_,⟨rfl,_,hy,by unfold oy;rw [hg.1,z7]⟩,h⟩) (fun j g y hy hg=>by
   unfold oy
   rw [z7]
   have:=wI y.p (Bn y (jJ y.p y.hd y.bd)) (g.1:Int) y.bd g.2
   have:=hb y (List.mem_of_getElem? hy)
   exact ⟨by simp only;omega,by simp only;omega⟩) (fun g _=>au Tryz.f185 0) (0,[]) (by simp)
 exact ⟨h,h2⟩
theorem QR:EN 25 (cF 0 (ai Tryz.f185)) ⟨[(0,.al [sR rs])],[]⟩ ⟨[(1,.aE [sR rs]),(2,.ab)],[]⟩:=au Tryz.f185 0
theorem QT:EN 25 (cF 1 (ai Tryz.f185)) ⟨[(1,.aE [sR rs]),(2,.ab)],[]⟩ ⟨[(1,.aE [sR rs]),(2,.ab),nq],[(3,.an [.ab])]⟩:=au Tryz.f185 0
theorem QU (l185_0q:Lo 25 (O Tryz.f185 0) (DN rs [] 0) (.ar 0) ⟨[nq],[Hy es]⟩):EN 25 (cF 2 (ai Tryz.f185)) ⟨[(1,.aE [sR rs]),(2,.ab),nq],[(3,.an [.aX 4 []])]⟩ ⟨[nq],[Hy es]⟩:=by
 have o0:=l185_0q
 exact au Tryz.f185 0
theorem QV:En 25 (ca 3 (ai Tryz.f185)) ⟨[nq],[(3,.an [.ab])]⟩ (fun e t=>e= .aR∧t=⟨[(2,.ab)],[]⟩):=au Tryz.f185 0
theorem QW:En 25 (ca 3 (ai Tryz.f185)) ⟨[nq],[(3,.an [.aw 50 0 (es.map Ed.av).length]),(50,.aw 4 (es.map Ed.av))]⟩ (fun e t=>e= .aR∧t=⟨[(2,.aF (es.map Ed.av) false)],[]⟩):=au Tryz.f185 0
theorem QQ (hb:∀r:Ru,r∈rs→r.bd.length≤16) (hsm:rs.length≤2000000):Sp 185 [.al [sR rs]] [] (.aF ((ni rs).map Ed.av) false) []:=by
 obtain ⟨hL,_⟩:=DO rs hb hsm
 generalize ni rs=es at hL⊢
 obtain ⟨e,s,⟨rfl,rfl⟩,r0⟩:=QR rs
 obtain ⟨e,s,⟨rfl,rfl⟩,r1⟩:=QT rs
 obtain ⟨e,s,⟨rfl,rfl⟩,r3⟩:=QU rs es hL
 have r1':=r1.gV (eC (st:=⟨_,[(3,.an [.ab])]⟩) 3 0 4 rfl rfl)
 cases es with
 |nil=>
  obtain ⟨e,s,⟨rfl,rfl⟩,r4⟩:=QV
  have r4':=r4.ez (gJ (st:=⟨[nq],[(3,.an [.aX 4 []])]⟩) 3 0 (sz:=4) rfl rfl)
  exact bK.vS (sQ Tryz.f185 (cf.iI 0 (by kernel_rfl) r0 (cf.iI 1 (by kernel_rfl) r1' (cf.iI 2 (by kernel_rfl) r3 r4')))) .ab
 |cons y q=>
  obtain ⟨e,s,⟨rfl,rfl⟩,r4⟩:=QW (y::q)
  have r4':=r4.ez (gm (st:=⟨[nq],[(3,.an [.aX 4 ((y::q).map Ed.av)])]⟩) 3 0 50 (sz:=4) rfl rfl (by simp) rfl (by simp [mid]))
  exact sQ Tryz.f185 (cf.iI 0 (by kernel_rfl) r0 (cf.iI 1 (by kernel_rfl) r1' (cf.iI 2 (by kernel_rfl) r3 r4')))
end
section
variable (rs:List Ru) (es:List Ed) (ks:List ByteArray) (y:Ru) (i:Nat)
attribute [simp] bw
theorem gQ {l:List AV} {j:Nat} {x:AV} (h:aa l=true) (h2:aJ x=true):aa (l.set j x)=true:=a8.2 fun y hy=>by
 rcases List.mem_or_eq_of_mem_set hy with h3|h3
 ·exact a8.1 h y h3
 ·rw [h3];exact h2
@[simp] theorem Bo (l:List ByteArray):aa (l.map fun _=>AV.al [])=true:=bI (fun _=>AV.al []) (fun _=>rfl) l
@[simp] theorem wK (l:List ByteArray) (j:Nat) (s:ByteArray):aa ((l.map AV.J).set j (.J s))=true:=gQ (bw l) rfl
@[simp] theorem JJ (l:List ByteArray) (j:Nat):aa ((l.map fun _=>AV.al []).set j (.al []))=true:=gQ (Bo l) rfl
theorem kE {α:Type}:∀{l:List α} {j:Nat} {x:α},l[j]? =some x→l.set j x=l
 |[],j,x,h=>rfl
 |y::r,0,x,h=>by simp at h;simp [h]
 |y::r,j+1,x,h=>by simp at h;simp [kE h]
abbrev sg (rs:List Ru) (ks:List ByteArray) (i:Int):St:=⟨[(0,sR rs),(3,.aI 10),(11,sR rs),(12,sI ((rs.map Ru.av).length:Nat)),(13,sI i)],[(10,.aI (ks.map AV.J) (ks.map fun _=>.al []))]⟩
abbrev sf (es:List Ed) (ks:List ByteArray) (i:Int):St:=⟨[(3,.aI 10),(26,.aF (es.map Ed.av) false),(27,sI ((es.map Ed.av).length:Nat)),(28,sI i)],[(10,.aI (ks.map AV.J) (ks.map fun _=>.al []))]⟩
def yu (ks:List ByteArray) (r:Ru):Option (List ByteArray):=if im r.hd=true then none else some (ec ks r.p)
theorem Q7 (hi:i<rs.length) (hsm:rs.length≤2000000) (hx:0≤(i:Int)∧(rs.map Ru.av)[Int.toNat (i:Int)]? =some y.av) (j:Nat) (JG:Sp 184 [y.av] [] (.ak false) []) (hf:bs true (.J y.p) (ks.map AV.J) 0=some (some j)):EN 46 (O Tryz.f135 0) ((sg rs ks i)) ⟨[(0,sR rs),(3,.aI 10),(11,sR rs),(12,sI ((rs.map Ru.av).length:Nat)),(13,sI ((i+1:Nat):Int))],[(10,.aI ((ks.map AV.J).set j (.J y.p)) ((ks.map fun _=>.al []).set j (.al [])))]⟩:=au Tryz.f135 0
theorem Q6 (hi:i<rs.length) (hsm:rs.length≤2000000) (hx:0≤(i:Int)∧(rs.map Ru.av)[Int.toNat (i:Int)]? =some y.av) (JG:Sp 184 [y.av] [] (.ak false) []) (hf:bs true (.J y.p) (ks.map AV.J) 0=some none):En 46 (O Tryz.f135 0) ((sg rs ks i)) (fun e t=>e= .aj∧t=sg rs (ks++[y.p]) ((i+1:Nat):Int)):=au Tryz.f135 0
abbrev WJ:Nat×AV:=(2,.ak false)
abbrev sh:St:=⟨[WJ],[]⟩
theorem Q8 (hi:i<rs.length) (hsm:rs.length≤2000000) (hx:0≤(i:Int)∧(rs.map Ru.av)[Int.toNat (i:Int)]? =some y.av) (JG:Sp 184 [y.av] [] (.ak true) []):En 46 (O Tryz.f135 0) ((sg rs ks i)) (fun e t=>e= .aR∧t=sh):=au Tryz.f135 0
attribute [local simp,local grind] gN in
theorem Q9 (y:Ed) (i:Nat) (hi:i<es.length) (hsm:es.length≤100000000) (hx:0≤(i:Int)∧(es.map Ed.av)[Int.toNat (i:Int)]? =some y.av) (hf:bs true (.J y.t) (ks.map AV.J) 0=some none) (hk:bq y.t ks=false):En 46 (O Tryz.f135 1) ((sf es ks i)) (fun e t=>(e= .aR∧t=sh∧gN ks y=false)∨(e= .aj∧t=sf es ks ((i+1:Nat):Int)∧gN ks y=true)):=aS Tryz.f135 0 [3,26,27,28] [K1 10]
attribute [local simp,local grind] gN in
theorem Ra (y:Ed) (i:Nat) (hi:i<es.length) (hsm:es.length≤100000000) (hx:0≤(i:Int)∧(es.map Ed.av)[Int.toNat (i:Int)]? =some y.av) (hf:∃j,bs true (.J y.t) (ks.map AV.J) 0=some (some j)∧(ks.map fun _=>AV.al [])[j]? =some (.al [])) (hk:bq y.t ks=true):En 46 (O Tryz.f135 1) ((sf es ks i)) (fun e t=>(e= .aR∧t=sh∧gN ks y=false)∨(e= .aj∧t=sf es ks ((i+1:Nat):Int)∧gN ks y=true)):=au Tryz.f135 0 (hr:=KL (I8 [3,26,27,28] [2]) (I8 [K1 10] []))
theorem WL:En 46 (O Tryz.f135 1) ((sf es ks es.length)) (fun e t=>e= .ar 2∧t=⟨[],[]⟩):=au Tryz.f135 0
theorem LR (hsm:rs.length≤2000000):(Lo 46 (O Tryz.f135 0) (sg rs [] 0) .aR sh∧rs.foldlM yu []=none)∨∃ks:List ByteArray,Lo 46 (O Tryz.f135 0) (sg rs [] 0) (.ar 0) ⟨[(0,sR rs),(3,.aI 10)],[(10,.aI (ks.map AV.J) (ks.map fun _=>.al []))]⟩∧rs.foldlM yu []=some ks:=by
 rcases iK (P:=Tryz.prog) (n:=46) (c:=O Tryz.f135 0) (l:=rs) (k:=0) (e0:= .aR) (R:=sh) (fun i ks=>sg rs ks (i:Nat)) (fun ks=>⟨[(0,sR rs),(3,.aI 10)],[(10,.aI (ks.map AV.J) (ks.map fun _=>.al []))]⟩) yu (fun _ _=>True) (fun i ks y hy _=>by
  have hi:=(List.getElem?_eq_some_iff.1 hy).1
  have hx:0≤(i:Int)∧(rs.map Ru.av)[Int.toNat (i:Int)]? =some y.av:=⟨by omega,dD Ru.av hy⟩
  have sp:=JG y.p y.hd y.bd
  unfold yu
  cases h1:im y.hd with
  |true=>
   rw [h1] at sp
   obtain ⟨e,s,⟨rfl,rfl⟩,h⟩:=Q8 rs ks y i hi hsm hx sp
   exact ⟨fun _=> .bD h (by simp),fun b hb=>(by cases hb)⟩
  |false=>
   rw [h1] at sp
   refine ⟨fun h=>(by cases h),fun b hb=> ?_⟩
   injection hb with hb
   subst hb
   unfold ec
   split
   ·rename_i hk
    obtain ⟨j,hf,hj⟩:=cy (i:=0) hk
    rw [Nat.zero_add] at hf
    obtain ⟨e,s,⟨rfl,rfl⟩,h⟩:=Q7 rs ks y i hi hsm hx j sp hf
    rw [kE (l:=ks.map AV.J) (by rw [List.getElem?_map,hj];rfl),kE (l:=ks.map fun _=>AV.al []) (by rw [List.getElem?_map,hj];rfl)] at h
    exact ⟨_,_,⟨rfl,rfl⟩,h⟩
   ·rename_i hk
    exact Q6 rs ks y i hi hsm hx sp (co hk)) (fun _ _ _ _ _ _ _=>trivial) (fun ks _=>au Tryz.f135 0) [] trivial with h|⟨ks,h,e,_⟩
 ·exact .inl h
 ·exact .inr ⟨ks,h,e⟩
theorem LS (hsm:es.length≤100000000):(Lo 46 (O Tryz.f135 1) (sf es ks 0) .aR sh∧es.all (gN ks)=false)∨(Lo 46 (O Tryz.f135 1) (sf es ks 0) (.ar 2) ⟨[],[]⟩∧es.all (gN ks)=true):=by
 refine CM (P:=Tryz.prog) (n:=46) (c:=O Tryz.f135 1) (fun i=>sf es ks (i:Nat)) _ (gN ks) (by simp) (fun i y hy=> ?_) (WL es ks)
 have hi:=(List.getElem?_eq_some_iff.1 hy).1
 have hx:0≤(i:Int)∧(es.map Ed.av)[Int.toNat (i:Int)]? =some y.av:=⟨by omega,dD Ed.av hy⟩
 by_cases hk:y.t∈ks
 ·obtain ⟨j,hf,hj⟩:=cy (i:=0) hk
  rw [Nat.zero_add] at hf
  exact Ra es ks y i hi hsm hx ⟨j,hf,by rw [List.getElem?_map,hj];rfl⟩ (decide_eq_true hk)
 ·exact Q9 es ks y i hi hsm hx (co hk) (decide_eq_false hk)
theorem Q0 (l135_0q:Lo 46 (O Tryz.f135 0) (sg rs [] 0) .aR sh):En 46 (ai Tryz.f135) ⟨[(0,sR rs)],[]⟩ (fun e t=>e= .aR∧t=sh):=by
 have o0:=l135_0q
 exact au Tryz.f135 0
theorem Q3 (QQ:Sp 185 [.al [sR rs]] [] (.aF (es.map Ed.av) false) []) (l135_0q:Lo 46 (O Tryz.f135 0) (sg rs [] 0) (.ar 0) ⟨[(0,sR rs),(3,.aI 10)],[(10,.aI (ks.map AV.J) (ks.map fun _=>.al []))]⟩) (l135_1q:Lo 46 (O Tryz.f135 1) (sf es ks 0) .aR sh):En 46 (ai Tryz.f135) ⟨[(0,sR rs)],[]⟩ (fun e t=>e= .aR∧t=sh):=by
 have o0:=l135_0q
 have o1:=QQ
 have o2:=l135_1q
 exact au Tryz.f135 0
theorem QZ (QQ:Sp 185 [.al [sR rs]] [] (.aF (es.map Ed.av) false) []) (l135_0q:Lo 46 (O Tryz.f135 0) (sg rs [] 0) (.ar 0) ⟨[(0,sR rs),(3,.aI 10)],[(10,.aI (ks.map AV.J) (ks.map fun _=>.al []))]⟩) (l135_1q:Lo 46 (O Tryz.f135 1) (sf es ks 0) (.ar 2) ⟨[],[]⟩):En 46 (ai Tryz.f135) ⟨[(0,sR rs)],[]⟩ (fun e t=>e= .aR∧t=⟨[(2,.ak true)],[]⟩):=by
 have o0:=l135_0q
 have o1:=QQ
 have o2:=l135_1q
 exact au Tryz.f135 0
theorem JK:∀(l:List Ru) (a b:List ByteArray),(∀v,v∈a↔v∈b)→(l.foldlM yu a=none∧l.foldlM yl b=none)∨∃c d,l.foldlM yu a=some c∧l.foldlM yl b=some d∧∀v,v∈c↔v∈d
 |[],a,b,h=> .inr ⟨a,b,rfl,rfl,h⟩
 |r::l,a,b,h=>by
  rw [List.foldlM_cons,List.foldlM_cons]
  unfold yu yl
  cases im r.hd with
  |true=>exact .inl ⟨rfl,rfl⟩
  |false=>
   refine JK l (ec a r.p) (b++[r.p]) fun v=> ?_
   unfold ec
   split
   ·rename_i hp
    rw [List.mem_append,List.mem_singleton,h]
    constructor
    ·exact .inl
    ·rintro (q|q)
     ·exact q
     ·rw [q,←h];exact hp
   ·rw [List.mem_append,List.mem_append,h]
theorem Q5 {a b:List ByteArray} (h:∀v,v∈a↔v∈b):gN a=gN b:=by
 funext e
 unfold gN bq
 rw [show decide (e.t∈a)=decide (e.t∈b) from decide_eq_decide.2 (h e.t)]
theorem Q4 (hb:∀r:Ru,r∈rs→r.bd.length≤16) (hsm:rs.length≤2000000):Sp 135 [sR rs] [] (.ak (uJ rs)) []:=by
 have fin:∀rb:Bool,Rz 46 (ai Tryz.f135) ⟨bO 0 [sR rs],[]⟩ .aR ⟨[(2,.ak rb)],[]⟩→Sp 135 [sR rs] [] (.ak rb) []:=fun rb h=>
  sQ Tryz.f135 h
 have sp:=QQ rs hb hsm
 have hes:(ni rs).length≤16*rs.length:=(DO rs hb hsm).2
 have ho:=JK rs [] [] (fun _=>Iff.rfl)
 rcases LR rs hsm with ⟨hL,e⟩|⟨ks,hL,e⟩
 ·rcases ho with ⟨_,h⟩|⟨c,d,h,_⟩
  ·obtain ⟨e,s,⟨rfl,rfl⟩,r⟩:=Q0 rs hL
   unfold uJ
   rw [h]
   exact fin _ r
  ·rw [e] at h;cases h
 ·rcases ho with ⟨h,_⟩|⟨c,d,h,h2,h3⟩
  ·rw [e] at h;cases h
  ·rw [e] at h;injection h with h;subst h
   unfold uJ
   rw [h2]
   show bK _ _ _ _ (.ak ((ni rs).all (gN d))) _
   rw [←Q5 h3]
   rcases LS (ni rs) ks (by omega) with ⟨hL1,h⟩|⟨hL1,h⟩
   ·obtain ⟨e,s,⟨rfl,rfl⟩,r⟩:=Q3 rs (ni rs) ks sp hL hL1
    rw [h];exact fin _ r
   ·obtain ⟨e,s,⟨rfl,rfl⟩,r⟩:=QZ rs (ni rs) ks sp hL hL1
    rw [h];exact fin _ r
theorem yt:rs.all G8= !rs.any pc:=by
 rw [List.not_any_eq_all_not];rfl
theorem WK (hb:∀r:Ru,r∈rs→r.bd.length≤16) (hsm:rs.length≤2000000):En 10 (ai Tryz.f80) (⟨[(0,sR rs)],[]⟩) (fun eo so=>eo= .aR∧∃rb:Bool,so=⟨[(2,.ak rb)],[]⟩∧rb=(qY rs)):=by
 have hs0:=Qz rs (by omega)
 refine z0<|zc hs0<|?_
 cases hb1:List.any rs pc with
 |true=>
  rw [hb1] at hs0
  exact zq ⟨rfl,false,rfl,by (unfold qY;rw [yt];first|(simp only [*];rfl)|(simp only [*];done))⟩
 |false=>
  rw [hb1] at hs0
  have hs2:=Q4 rs (by assumption) (by assumption)
  cases hb3:uJ rs with
  |true=>
   rw [hb3] at hs2
   exact zc hs2<|zq ⟨rfl,true,rfl,by (unfold qY;rw [yt];first|(simp only [*];rfl)|(simp only [*];done))⟩
  |false=>
   rw [hb3] at hs2
   exact zc hs2<|zq ⟨rfl,false,rfl,by (unfold qY;rw [yt];first|(simp only [*];rfl)|(simp only [*];done))⟩
theorem WM (hb:∀r:Ru,r∈rs→r.bd.length≤16) (hsm:rs.length≤2000000):Sp 80 [sR rs] [] (.ak ((qY rs))) []:=by
 obtain ⟨_,_,⟨rfl,_,rfl,rfl⟩,h⟩:=WK rs hb hsm
 exact sP Tryz.f80 (by first|rfl|simp [aa,aJ]) h (.inr rfl)
end
section
variable (s:ByteArray) (n:Int)
abbrev Am:=List (ByteArray×Int)
def dL (am:Am):List ByteArray:=am.map Prod.fst
def nH (am:Am):List AV:=am.map fun x=>sI x.2
@[reducible] def ap (am:Am):List (Nat×Ob):=[(100003,.aI ((dL am).map .J) (nH am))]
@[simp] theorem yv (am:Am):aa (nH am)=true:=bI (fun x:ByteArray×Int=>sI x.2) (fun _=>rfl) am
theorem oE (am:Am):∀id o,(id,o)∈ap am→bg (gX (ap am)) o=o:=by
 intro id o hm
 simp only [ap,List.mem_cons,Prod.mk.injEq,List.not_mem_nil,or_false] at hm
 obtain ⟨rfl,rfl⟩:=hm
 simp only [bg,aM _ _ (bw (dL am)),aM _ _ (yv am)]
def wL (s:ByteArray):Am→Option Int
 |[]=>none
 |y::r=>if y.1=s then some y.2 else wL s r
def jK (a:Am) (x:ByteArray×Int):Option Am:=match wL x.1 a with
 |some m=>if m=x.2 then some a else none
 |none=>some (a++[x])
def uQ (a:Am) (x:ByteArray×Int):Bool:=(jK a x).isSome
def si (a:Am) (x:ByteArray×Int):Am:=(jK a x).getD a
theorem wM {s:ByteArray}:∀{a:Am} {i:Nat},wL s a=none→bs true (.J s) ((dL a).map AV.J) i=some none
 |[],_,_=>rfl
 |y::r,i,h=>by
  unfold wL at h
  split at h
  ·cases h
  ·rename_i hn
   show (match some (decide (s=y.1)) with|some true=>some (some i)|some false=>bs true (.J s) ((dL r).map AV.J) (i+1)|none=>none)=_
   rw [decide_eq_false (Ne.symm hn)]
   exact wM h
theorem ra {s:ByteArray} {m:Int}:∀{a:Am} {i:Nat},wL s a=some m→∃j,bs true (.J s) ((dL a).map AV.J) i=some (some (i+j))∧(nH a)[j]? =some (sI m)
 |[],_,h=>by cases h
 |y::r,i,h=>by
  unfold wL at h
  have e:bs true (.J s) ((dL (y::r)).map AV.J) i=(match some (decide (s=y.1)) with|some true=>some (some i)|some false=>bs true (.J s) ((dL r).map AV.J) (i+1)|none=>none):=rfl
  split at h
  ·rename_i hn
   injection h with h
   refine ⟨0,?_,by rw [←h];rfl⟩
   rw [e,decide_eq_true hn.symm];rfl
  ·rename_i hn
   obtain ⟨j,h1,h2⟩:=ra (i:=i+1) h
   refine ⟨j+1,?_,h2⟩
   rw [e,decide_eq_false (Ne.symm hn)]
   rw [show i+(j+1)=i+1+j from by omega]
   exact h1
@[simp] theorem LW {a:Am} {x:ByteArray×Int} (h:uQ a x=true):jK a x=some (si a x):=by
  unfold uQ at h
  unfold si
  obtain ⟨b,hb⟩:=Option.isSome_iff_exists.1 h
  rw [hb];rfl
@[simp] theorem LV {a:Am} {x:ByteArray×Int} (h:uQ a x=false):jK a x=none:=by
  unfold uQ at h
  cases hb:jK a x with
  |none=>rfl
  |some b=>rw [hb] at h;cases h
theorem Rc (am:Am) (s:ByteArray) (n m:Int) (hf:∃i,bs true (.J s) ((dL am).map AV.J) 0=some (some i)∧(nH am)[i]? =some (sI m)):En 27 (ai Tryz.f179) ⟨[(0,.aI 100003),(1,.J s),(2,sI n)],ap am⟩ (fun e t=>e= .aR∧t=⟨[(6,.ak (decide (m=n)))],ap am⟩):=au Tryz.f179 60000
theorem Re (am:Am) (s:ByteArray) (n:Int) (hf:bs true (.J s) ((dL am).map AV.J) 0=some none):En 27 (ai Tryz.f179) ⟨[(0,.aI 100003),(1,.J s),(2,sI n)],ap am⟩ (fun e t=>e= .aR∧t=⟨[(6,.ak true)],ap (am++[(s,n)])⟩):=by
 exact zs 60000<|zh hf<|zh hf<|zh (show aa (List.map AV.J (dL am)++[AV.J s])=true∧aa (nH am++[sI n])=true from by simp)<|zd (.is false)<|zd (.is false)<|zq (s:=St.mk [(6,AV.ak true)] [(100003,Ob.aI (List.map AV.J (dL am)++[AV.J s]) (nH am++[sI n]))]) ⟨rfl,by simp [ap,dL,nH]⟩
theorem Rb (am:Am) (s:ByteArray) (n:Int):Sp 179 [.aI 100003,.J s,sI n] (ap am) (.ak (uQ am (s,n))) (ap (si am (s,n))):=by
 unfold uQ si jK
 cases h:wL s am with
 |some m=>
  obtain ⟨j,hf,hj⟩:=ra (i:=0) h
  obtain ⟨e,t,⟨rfl,rfl⟩,r⟩:=Rc am s n m ⟨0+j,hf,by rw [Nat.zero_add];exact hj⟩
  have e1:(if m=n then some am else none:Option Am).isSome=decide (m=n):=by split<;>simp_all
  have e2:(if m=n then some am else none:Option Am).getD am=am:=by split<;>rfl
  show bK _ _ _ _ (.ak (if m=n then some am else none:Option Am).isSome) (ap ((if m=n then some am else none:Option Am).getD am))
  rw [e1,e2]
  exact sG Tryz.f179 (oE am) r (.inr rfl)
 |none=>
  obtain ⟨e,t,⟨rfl,rfl⟩,r⟩:=Re am s n (wM h)
  exact sG Tryz.f179 (oE am) r (.inr rfl)
instance abE:KI 179 [100003]:=⟨⟩
@[reducible,instance] def aaC (am:Am) (s:ByteArray) (n:Int):=tT (Rb am s n)
def rf (a:Am) (y:Li):Option Am:=if y.k=1∨y.k=2 then jK a (y.p,(y.ts.length:Int)) else some a
def jL (a:Am) (r:Ru):Option Am:=(jK a (r.p,(r.hd.length:Int))).bind fun b=>r.bd.foldlM rf b
def NU (o:Option Am) (rb:Bool) (b:Am):Prop:=(rb=false∧o=none)∨(rb=true∧o=some b)
theorem NU.f {o:Option Am} {b:Am} (h:NU o false b):o=none:=h.elim (·.2) (fun h=>by cases h.1)
theorem NU.t {o:Option Am} {b:Am} (h:NU o true b):o=some b:=h.elim (fun h=>by cases h.1) (·.2)
theorem LT {a:Am} {r:Ru} {n:Int} (hb:uQ a (r.p,n)=false) (hn:n=(r.hd.length:Int)):jL a r=none:=by
 subst hn
 unfold jL
 rw [LV hb];rfl
theorem LU {a:Am} {r:Ru} {n:Int} {o:Option Am} (hb:uQ a (r.p,n)=true) (hn:n=(r.hd.length:Int)) (h:r.bd.foldlM rf (si a (r.p,n))=o):jL a r=o:=by
 subst hn
 unfold jL
 rw [LW hb];exact h
end
section
variable (bd:List Li) (am:Am)
abbrev Hz:Nat×AV:=(0,.aI 100003)
abbrev LX (bd:List Li) (am:Am) (i:Int):St:=⟨[Hz,(16,sL bd),(17,sI ((bd.map Li.av).length:Nat)),(18,sI i)],ap am⟩
attribute [local simp,local grind] rf in
theorem WP (bd:List Li) (am:Am) (i:Nat) (y:Li) (hi:i<bd.length) (hsm:bd.length≤9223372036854775807) (hx:0≤(i:Int)∧(bd.map Li.av)[Int.toNat (i:Int)]? =some y.av):En 43 (O Tryz.f127 0) ((LX bd am i)) (fun e t=>(e= .aR∧rf am y=none∧∃g:Am,t=⟨[(4,.ak false)],ap g⟩)∨(e= .aj∧∃g:Am,rf am y=some g∧t=LX bd g ((i+1:Nat):Int))):=aZ Tryz.f127 60000 [0,16,17,18] [4] [K1 100003]
abbrev HA:Nat×AV:=(4,.ak false)
theorem LY (hsm:bd.length≤9223372036854775807):
  (∃g,Lo 43 (O Tryz.f127 0) ⟨[Hz,(16,sL bd),(17,sI ((bd.map Li.av).length:Nat)),(18,sI 0)],ap am⟩ .aR ⟨[HA],ap g⟩∧bd.foldlM rf am=none)∨
  (∃g,Lo 43 (O Tryz.f127 0) ⟨[Hz,(16,sL bd),(17,sI ((bd.map Li.av).length:Nat)),(18,sI 0)],ap am⟩ (.ar 0) ⟨[],ap g⟩∧bd.foldlM rf am=some g):=by
 rcases oa (P:=Tryz.prog) (n:=43) (c:=O Tryz.f127 0) (l:=bd) (k:=0) (e0:= .aR) (fun g:Am=>⟨[HA],ap g⟩) (fun i g=>LX bd g (i:Nat)) (fun g=>⟨[],ap g⟩) rf (fun _ _=>True) (fun i a y hy _=>by
  obtain ⟨e,t,⟨rfl,hn,g,rfl⟩|⟨rfl,g,hn,rfl⟩,h⟩:=WP bd a i y (List.getElem?_eq_some_iff.1 hy).1 hsm ⟨by omega,dD Li.av hy⟩
  ·exact ⟨fun _=>⟨g,.bD h (by simp)⟩,fun b hb=>(by rw [hn] at hb;cases hb)⟩
  ·exact ⟨fun q=>(by rw [hn] at q;cases q),fun b hb=>by rw [hn] at hb;injection hb with hb;subst hb;exact ⟨_,_,⟨rfl,rfl⟩,h⟩⟩) (fun _ _ _ _ _ _ _=>trivial) (fun g _=>au Tryz.f127 60000) am trivial with h|⟨g,h,e,_⟩
 ·exact .inl h
 ·exact .inr ⟨g,h,e⟩
theorem WN (p:ByteArray) (hd:List Ar) (bd:List Li) (am:Am) (hsm:bd.length≤9223372036854775807):En 43 (ai Tryz.f127) ⟨[Hz,(1,.al [.J p,sA hd,sL bd])],ap am⟩ (fun e t=>e= .aR∧∃(rb:Bool) (g:Am),t=⟨[(4,.ak rb)],ap g⟩∧NU (jL am ⟨p,hd,bd⟩) rb g):=by
 have hs0:=Rb am p ((↑(List.length (List.map Ar.av hd)):Int))
 have u0:aa (List.map AV.J (dL (si am (p,(↑(List.length (List.map Ar.av hd)):Int)))))=true∧aa (nH (si am (p,(↑(List.length (List.map Ar.av hd)):Int))))=true:=by simp
 refine zs 60000<|zc hs0<|zh u0<|?_
 cases hb1:uQ am (p,(↑(List.length (List.map Ar.av hd)):Int)) with
 |true=>
  rw [hb1] at hs0
  rcases LY (bd) (si am (p,(↑(List.length (List.map Ar.av hd)):Int))) (by assumption) with o2|o2
  ·obtain ⟨y3,⟨hl4,hl4'⟩⟩:=o2
   exact zd (.g8 [0,16,17,18] [K1 100003])<|zl hl4<|zh (show aa (List.map AV.J (dL y3))=true∧aa (nH y3)=true from by simp)<|zq (s:=St.mk [HA] [(100003,.aI (List.map AV.J (dL y3)) (nH y3))]) (by refine ⟨rfl,_,_,rfl,?_⟩;first|(refine .inl ⟨rfl,LT (r:=⟨p,hd,bd⟩) (n:=((hd.map Ar.av).length:Int)) ?_ ?_⟩<;>first|assumption|(simp;done))|(refine .inl ⟨rfl,LU (r:=⟨p,hd,bd⟩) (n:=((hd.map Ar.av).length:Int)) ?_ ?_ ?_⟩<;>first|assumption|(simp;done))|(refine .inr ⟨rfl,LU (r:=⟨p,hd,bd⟩) (n:=((hd.map Ar.av).length:Int)) ?_ ?_ ?_⟩<;>first|assumption|(simp;done)))
  ·obtain ⟨y3,⟨hl4,hl4'⟩⟩:=o2
   exact zd (.g8 [0,16,17,18] [K1 100003])<|zl hl4<|zh (show aa (List.map AV.J (dL y3))=true∧aa (nH y3)=true from by simp)<|zq (s:=St.mk [(4,.ak true)] [(100003,.aI (List.map AV.J (dL y3)) (nH y3))]) (by refine ⟨rfl,_,_,rfl,?_⟩;first|(refine .inl ⟨rfl,LT (r:=⟨p,hd,bd⟩) (n:=((hd.map Ar.av).length:Int)) ?_ ?_⟩<;>first|assumption|(simp;done))|(refine .inl ⟨rfl,LU (r:=⟨p,hd,bd⟩) (n:=((hd.map Ar.av).length:Int)) ?_ ?_ ?_⟩<;>first|assumption|(simp;done))|(refine .inr ⟨rfl,LU (r:=⟨p,hd,bd⟩) (n:=((hd.map Ar.av).length:Int)) ?_ ?_ ?_⟩<;>first|assumption|(simp;done)))
 |false=>
  rw [hb1] at hs0
  exact zq (s:=St.mk [HA] [(100003,.aI (List.map AV.J (dL (si am (p,(↑(hd.map Ar.av).length:Int))))) (nH (si am (p,(↑(hd.map Ar.av).length:Int)))))]) (by refine ⟨rfl,_,_,rfl,?_⟩;first|(refine .inl ⟨rfl,LT (r:=⟨p,hd,bd⟩) (n:=((hd.map Ar.av).length:Int)) ?_ ?_⟩<;>first|assumption|(simp;done))|(refine .inl ⟨rfl,LU (r:=⟨p,hd,bd⟩) (n:=((hd.map Ar.av).length:Int)) ?_ ?_ ?_⟩<;>first|assumption|(simp;done))|(refine .inr ⟨rfl,LU (r:=⟨p,hd,bd⟩) (n:=((hd.map Ar.av).length:Int)) ?_ ?_ ?_⟩<;>first|assumption|(simp;done)))
theorem WO (p:ByteArray) (hd:List Ar) (bd:List Li) (am:Am) (hsm:bd.length≤9223372036854775807):∃(rb:Bool) (g:Am),Sp 127 [.aI 100003,.al [.J p,sA hd,sL bd]] (ap am) (.ak rb) (ap g)∧NU (jL am ⟨p,hd,bd⟩) rb g:=by
 obtain ⟨e,t,⟨rfl,rb,g,rfl,hp⟩,h⟩:=WN p hd bd am hsm
 exact ⟨rb,g,sG Tryz.f127 (oE am) h (.inr rfl),hp⟩
end
section
variable (rs:List Ru) (am:Am)
abbrev LZ (rs:List Ru) (am:Am) (i:Int):St:=⟨[(1,.bZ 127 [.aI 100003] []),(7,sR rs),(8,sI ((rs.map Ru.av).length:Nat)),(9,sI i)],ap am⟩
abbrev DQ:Nat×AV:=(4,.ak false)
theorem WV (i:Nat) (y:Ru) (hi:i<rs.length) (hsm:rs.length≤9223372036854775807) (hl:y.bd.length≤9223372036854775807) (hx:0≤(i:Int)∧(rs.map Ru.av)[Int.toNat (i:Int)]? =some y.av):En 18 (O Tryz.f126 0) ((LZ rs am i)) (fun e t=>(e= .aR∧jL am y=none∧∃g:Am,t=⟨[DQ],ap g⟩)∨(e= .aj∧∃g:Am,jL am y=some g∧t=LZ rs g ((i+1:Nat):Int))):=by
 obtain ⟨r0,r1,⟨hs2,hs2'⟩⟩:=WO y.1 y.2 y.3 am (by assumption)
 have u0:decide ((↑i:Int)<(↑(List.length (List.map Ru.av rs)):Int))=true:=by simp;omega
 have u1:aa (List.map AV.J (dL r1))=true∧aa (nH r1)=true:=by simp
 refine zs 60000<|zt u0<|ze hx<|zc hs2<|?_
 cases r0 with
 |true=>
  exact zh (w1 i (by omega))<|zh u1<|zq (s:=St.mk [(1,.bZ 127 [.aI 100003] []),(7,sR rs),(8,sI (↑(rs.map Ru.av).length:Int)),(9,sI ((i:Int)+1))] [(100003,.aI (List.map AV.J (dL r1)) (nH r1))]) (.inr ⟨rfl,_,NU.t (by assumption),rfl⟩)
 |false=>
  exact zh u1<|zq (s:=St.mk [DQ] [(100003,.aI (List.map AV.J (dL r1)) (nH r1))]) (.inl ⟨rfl,NU.f (by assumption),_,rfl⟩)
def kJ (r:Ru) (u:ByteArray):Prop:=u=r.p∨∃y,y∈r.bd∧(y.k=1∨y.k=2)∧u=y.p
def z8 (b:Am) (r:Ru):Prop:=(r.p,(r.hd.length:Int))∈b∧∀y,y∈r.bd→(y.k=1∨y.k=2)→(y.p,(y.ts.length:Int))∈b
def DR (y:Li):Am:=if y.k=1∨y.k=2 then [(y.p,(y.ts.length:Int))] else []
def vt (r:Ru):Am:=(r.p,(r.hd.length:Int))::r.bd.flatMap DR
theorem Rf (a:Am) (y:Li):rf a y=(DR y).foldlM jK a:=by
 unfold rf DR
 split
 ·rw [List.foldlM_cons]
  cases jK a (y.p,(y.ts.length:Int))<;>rfl
 ·rfl
theorem L4 (bd:List Li):∀a:Am,bd.foldlM rf a=(bd.flatMap DR).foldlM jK a:=by
 induction bd with
 |nil=>intro a;rfl
 |cons y r ih=>
  intro a
  rw [List.foldlM_cons,List.flatMap_cons,List.foldlM_append,Rf]
  congr 1
  funext b
  exact ih b
theorem Rg (a:Am) (r:Ru):jL a r=(vt r).foldlM jK a:=by
 unfold jL vt
 rw [List.foldlM_cons]
 show _=Option.bind _ _
 congr 1
 funext b
 exact L4 r.bd b
theorem yw:∀a:Am,rs.foldlM jL a=(rs.flatMap vt).foldlM jK a:=by
 induction rs with
 |nil=>intro a;rfl
 |cons y r ih=>
  intro a
  rw [List.foldlM_cons,List.flatMap_cons,List.foldlM_append,Rg]
  congr 1
  funext b
  exact ih b
theorem nt {s:ByteArray} {m:Int}:∀{a:Am},wL s a=some m→(s,m)∈a
 |y::r,h=>by
  unfold wL at h
  split at h
  ·rename_i e
   injection h with h
   rw [←h,←e];simp
  ·exact List.mem_cons_of_mem _ (nt h)
theorem pG {s:ByteArray}:∀{a:Am},wL s a=none→s∉dL a
 |[],_=>by simp [dL]
 |y::r,h=>by
  unfold wL at h
  split at h
  ·cases h
  ·rename_i e
   have:=pG h
   simp only [dL,List.map_cons,List.mem_cons,not_or]
   exact ⟨Ne.symm e,this⟩
theorem DS:∀(l:Am) {a b:Am},l.foldlM jK a=some b→(∀x,x∈a→x∈b)∧((dL a).Nodup→(dL b).Nodup)∧(∀x,x∈b→x∈a∨x∈l)∧(∀x,x∈l→x∈b)∧b.length≤a.length+l.length
 |[],a,b,h=>by
  injection h with h
  subst h
  exact ⟨fun _ h=>h,id,fun _ h=> .inl h,fun _ h=>(by cases h),by simp⟩
 |x::r,a,b,h=>by
  rw [List.foldlM_cons] at h
  cases hx:jK a x with
  |none=>rw [hx] at h;cases h
  |some c=>
   rw [hx] at h
   obtain ⟨i1,i2,i3,i4,i5⟩:=DS r (a:=c) h
   have hc:(∀z,z∈a→z∈c)∧x∈c∧((dL a).Nodup→(dL c).Nodup)∧(∀z,z∈c→z∈a∨z=x)∧c.length≤a.length+1:=by
    unfold jK at hx
    split at hx
    ·rename_i m hm
     split at hx
     ·rename_i e
      injection hx with hx;subst hx
      have:=nt hm
      rw [e] at this
      exact ⟨fun _ h=>h,this,id,fun _ h=> .inl h,by omega⟩
     ·cases hx
    ·rename_i hm
     injection hx with hx;subst hx
     refine ⟨fun z hz=>List.mem_append_left _ hz,by simp,fun hd=> ?_,fun z hz=>(List.mem_append.1 hz).imp_right List.mem_singleton.1,by simp⟩
     unfold dL at hd⊢
     rw [List.map_append]
     refine List.nodup_append.2 ⟨hd,by simp,fun u hu v hv=> ?_⟩
     simp only [List.map_cons,List.map_nil,List.mem_singleton] at hv
     subst hv
     rintro rfl
     exact pG hm hu
   obtain ⟨c1,c2,c3,c4,c5⟩:=hc
   refine ⟨fun z hz=>i1 z (c1 z hz),fun hd=>i2 (c3 hd),fun z hz=> ?_,fun z hz=> ?_,by simp only [List.length_cons];omega⟩
   ·rcases i3 z hz with q|q
    ·exact (c4 z q).imp id (fun (h:z=x)=>h▸List.mem_cons_self ..)
    ·exact .inr (List.mem_cons_of_mem _ q)
   ·rcases List.mem_cons.1 hz with q|q
    ·exact i1 z (q▸c2)
    ·exact i4 z q
theorem HC {y:Li} {x:ByteArray×Int}:x∈DR y↔(y.k=1∨y.k=2)∧x=(y.p,(y.ts.length:Int)):=by
 unfold DR
 split<;>simp_all
theorem dS {r:Ru} {x:ByteArray×Int}:x∈vt r↔x=(r.p,(r.hd.length:Int))∨∃y,y∈r.bd∧(y.k=1∨y.k=2)∧x=(y.p,(y.ts.length:Int)):=by
 unfold vt
 rw [List.mem_cons,List.mem_flatMap]
 simp only [HC]
theorem HD (r:Ru):(vt r).length≤r.bd.length+1:=by
 unfold vt
 rw [List.length_cons]
 have:∀l:List Li,(l.flatMap DR).length≤l.length:=by
  intro l
  induction l with
  |nil=>simp
  |cons y q ih=>
   rw [List.flatMap_cons,List.length_append,List.length_cons]
   have:(DR y).length≤1:=by unfold DR;split<;>simp
   omega
 have:=this r.bd
 omega
theorem DT {rs:List Ru} (hb:∀r,r∈rs→r.bd.length≤16):(rs.flatMap vt).length≤17*rs.length:=by
 induction rs with
 |nil=>simp
 |cons y q ih=>
  rw [List.flatMap_cons,List.length_append,List.length_cons]
  have:=ih (fun r hr=>hb r (List.mem_cons_of_mem _ hr))
  have:=HD y
  have:=hb y (List.mem_cons_self ..)
  omega
theorem L0 (hsm:rs.length≤9223372036854775807) (hb:∀r,r∈rs→r.bd.length≤16):
  (∃g,Lo 18 (O Tryz.f126 0) ⟨[(1,.bZ 127 [.aI 100003] []),(7,sR rs),(8,sI ((rs.map Ru.av).length:Nat)),(9,sI 0)],ap am⟩ .aR ⟨[DQ],ap g⟩∧rs.foldlM jL am=none)∨
  (∃g,Lo 18 (O Tryz.f126 0) ⟨[(1,.bZ 127 [.aI 100003] []),(7,sR rs),(8,sI ((rs.map Ru.av).length:Nat)),(9,sI 0)],ap am⟩ (.ar 0) ⟨[],ap g⟩∧rs.foldlM jL am=some g):=by
 rcases oa (P:=Tryz.prog) (n:=18) (c:=O Tryz.f126 0) (l:=rs) (k:=0) (e0:= .aR) (fun g:Am=>⟨[DQ],ap g⟩) (fun i g=>LZ rs g (i:Nat)) (fun g=>⟨[],ap g⟩) jL (fun _ _=>True) (fun i a y hy _=>by
  obtain ⟨e,t,⟨rfl,hn,g,rfl⟩|⟨rfl,g,hn,rfl⟩,h⟩:=WV rs a i y (List.getElem?_eq_some_iff.1 hy).1 hsm (by have:=hb y (List.mem_of_getElem? hy);omega) ⟨by omega,dD Ru.av hy⟩
  ·exact ⟨fun _=>⟨g,.bD h (by simp)⟩,fun b hb=>(by rw [hn] at hb;cases hb)⟩
  ·exact ⟨fun q=>(by rw [hn] at q;cases q),fun b hb=>by rw [hn] at hb;injection hb with hb;subst hb;exact ⟨_,_,⟨rfl,rfl⟩,h⟩⟩) (fun _ _ _ _ _ _ _=>trivial) (fun g _=>au Tryz.f126 60000) am trivial with h|⟨g,h,e,_⟩
 ·exact .inl h
 ·exact .inr ⟨g,h,e⟩
theorem WQ (hsm:rs.length≤9223372036854775807) (hb:∀r,r∈rs→r.bd.length≤16):En 18 (ai Tryz.f126) ⟨[(0,sR rs),(1,.bZ 127 [.aI 100003] [])],ap am⟩ (fun e t=>e= .aR∧∃(rb:Bool) (g:Am),t=⟨[(4,.ak rb)],ap g⟩∧NU (rs.foldlM jL am) rb g):=by
 have u0:aa (List.map AV.J (dL am))=true∧aa (nH am)=true:=by simp
 refine zs 60000<|zh u0<|zd (.g8 [1,7,8,9] [K1 100003])<|?_
 rcases L0 (rs) (am) (by assumption) (by assumption) with o0|o0
 ·obtain ⟨y1,⟨hl2,hl2'⟩⟩:=o0
  exact zl hl2<|zh (show aa (List.map AV.J (dL y1))=true∧aa (nH y1)=true from by simp)<|zq (s:=St.mk [DQ] [(100003,.aI (List.map AV.J (dL y1)) (nH y1))]) ⟨rfl,_,_,rfl,by first|(refine .inl ⟨rfl,?_⟩;assumption)|(refine .inr ⟨rfl,?_⟩;assumption)⟩
 ·obtain ⟨y1,⟨hl2,hl2'⟩⟩:=o0
  exact zl hl2<|zh (show aa (List.map AV.J (dL y1))=true∧aa (nH y1)=true from by simp)<|zq (s:=St.mk [(4,.ak true)] [(100003,.aI (List.map AV.J (dL y1)) (nH y1))]) ⟨rfl,_,_,rfl,by first|(refine .inl ⟨rfl,?_⟩;assumption)|(refine .inr ⟨rfl,?_⟩;assumption)⟩
theorem WT (hsm:rs.length≤9223372036854775807) (hb:∀r,r∈rs→r.bd.length≤16):∃(rb:Bool) (g:Am),Sp 126 [sR rs,.bZ 127 [.aI 100003] []] (ap am) (.ak rb) (ap g)∧NU (rs.foldlM jL am) rb g:=by
 obtain ⟨e,t,⟨rfl,rb,am2,rfl,hp⟩,h⟩:=WQ rs am hsm hb
 exact ⟨rb,am2,sG Tryz.f126 (oE am) h (.inr rfl),hp⟩
theorem WS:En 18 (O Tryz.f128 0) ⟨[(8,sI 0),(9,sI 0)],ap am⟩ (fun e t=>e= .ar 0∧t=⟨[],ap am⟩):=au Tryz.f128 60000
theorem L3:Lo 18 (O Tryz.f128 0) ⟨[(8,sI 0),(9,sI 0)],ap am⟩ (.ar 0) ⟨[],ap am⟩:=by
 obtain ⟨e,t,⟨rfl,rfl⟩,h⟩:=WS am
 exact .bD h (by simp)
theorem WU:Sp 128 [.ab,.bZ 129 [.aI 100003] []] (ap am) (.ak true) []:=by
 have o0h:=L3 am
 exact aU Tryz.f128 60000 18 (oE am)
theorem WR:En 4 (ai Tryz.f131) ⟨[(0,.aI 100003)],ap am⟩ (fun e t=>e= .aR∧t=⟨[(2,.bZ 182 [] [.aA 100501 0 0])],[(100003,.aI ((dL am).map AV.J) (nH am)),(100501,.an [.aI 100003])]⟩):=au Tryz.f131 100500
end
section
variable (am:Am)
abbrev Bp:Nat×Ob:=(100003,.aI ((dL am).map AV.J) (nH am))
abbrev Bq:Nat×Ob:=(100501,.an [.aI 100003])
theorem WX:Sp 131 [.aI 100003] (ap am) (.bZ 182 [] [.aA 100501 0 0]) [Bp am,Bq]:=by
 obtain ⟨e,t,⟨rfl,rfl⟩,h⟩:=WR am
 exact sG Tryz.f131 (oE am) h (.inr rfl)
theorem rh:∀(l:List ByteArray),cg (l.map AV.J)=some (l.map fun s=>s.data.toList)
 |[]=>rfl
 |s::r=>by simp only [List.map_cons,cg,rh r]
theorem WW (h1:∀s,s∈dL am→s.size≤1000000) (h2:am.length≤100000000):∃ss:List ByteArray,Sp 130 [.bZ 182 [] [.aA 100501 0 0]] [Bp am,Bq] (.aF (ss.map .J) false) []∧ss.Perm (dL am):=by
 have hl:(dL am).length=am.length:=by simp [dL]
 refine ⟨(ig ((dL am).map fun s=>s.data.toList)).map fun (l:List UInt8)=>(⟨l.toArray⟩:ByteArray),?_,?_⟩
 ·have h:=Kx 130 [.bZ 182 [] [.aA 100501 0 0]] [Bp am,Bq] 0 (.aF ((ig ((dL am).map fun s=>s.data.toList)).map fun (l:List UInt8)=>AV.J ⟨l.toArray⟩) false) [] 0 (by
   have ha:(((dL am).map fun s=>s.data.toList).all (fun t=>Nat.ble t.length 1000000)&&Nat.ble ((dL am).map fun s=>s.data.toList).length 100000000)=true:=by
    rw [Bool.and_eq_true]
    refine ⟨List.all_eq_true.2 fun t ht=> ?_,Nat.ble_eq_true_of_le (by rw [List.length_map,hl];exact h2)⟩
    obtain ⟨s,hs,rfl⟩:=List.mem_map.1 ht
    exact Nat.ble_eq_true_of_le (h1 s hs)
   show (match cg ((dL am).map AV.J) with
    |some ts=>bif ts.all (fun t=>Nat.ble t.length 1000000)&&Nat.ble ts.length 100000000 then some (AV.aF ((ig ts).map fun (l:List UInt8)=>AV.J ⟨l.toArray⟩) false,([]:List (Nat×Ob)),0) else none
    |none=>none)=_
   rw [rh]
   simp only [ha,cond_true])
  rw [List.map_map]
  exact h
 ·refine ((jc _).map _).trans ?_
  rw [List.map_map]
  have e:((fun l:List UInt8=>(⟨l.toArray⟩:ByteArray))∘fun s:ByteArray=>s.data.toList)=id:=by funext s;rfl
  rw [e,List.map_id]
abbrev Ui (am:Am) (ss:List ByteArray) (i:Int) (ps:Am):St:=⟨[(6,.aI 100003),(7,.aO 60040 ps.length),(26,sS ss),(27,sI ((ss.map AV.J).length:Nat)),(28,sI i)],[Bp am,Bq,(60040,.ao 2 (ps.map bV))]⟩
theorem t78 (am ps:Am) (ss:List ByteArray) (s:ByteArray) (m:Int) (i:Nat) (hi:i<ss.length) (hsm:ss.length<100000000) (hps:ps.length<100000000) (hx:0≤(i:Int)∧(ss.map AV.J)[Int.toNat (i:Int)]? =some (.J s)) (hf:∃j,bs true (.J s) ((dL am).map AV.J) 0=some (some j)∧(nH am)[j]? =some (sI m)):En 42 (O Tryz.f78 0) ((Ui am ss i ps)) (fun e t=>e= .aj∧t=Ui am ss ((i+1:Nat):Int) (ps++[(s,m)])):=by
 exact zs 60000<|zt (d1 AV.J ss i (by omega))<|ze hx<|zx (.aA (sI m)) hf<|zh (rZ 2 24 [.al [.J s,sI m]] (List.length ps) (List.map bV ps) (by (refine ⟨?_,?_,?_,?_,?_,?_⟩<;>first|(simp;done)|(intro e he;simp only [List.mem_singleton] at he;subst he;exact Ld _)|(intro e he;obtain ⟨z,_,rfl⟩:=List.mem_map.1 he;exact Ld z)|(simp;omega))))<|zh (w1 i (by omega))<|zh (show aa (List.map AV.J (dL am))=true∧aa (nH am)=true from by simp)<|zh (zN (List.map bV ps++[.al [.J s,sI m]]))<|zd (.is true)<|zq (s:=St.mk [(6,AV.aI 100003),(7,AV.aO 60040 (List.length ps+List.length [AV.al [AV.J s,sI m]])),(26,sS ss),(27,sI (↑(List.length (List.map AV.J ss)):Int)),(28,sI ((↑i:Int)+1))] [(100003,Ob.aI (List.map AV.J (dL am)) (nH am)),(100501,Ob.an [AV.aI 100003]),(60040,Ob.ao 2 (List.map bV ps++[AV.al [AV.J s,sI m]]))]) ⟨rfl,by simp only [Ui,List.map_append,List.length_append];rfl⟩ (tb:=[K1 100003,K0 100501,(60039,.a6 60040 true)])
def DU (am a:Am) (s:ByteArray):Am:=a++[(s,(wL s am).getD 0)]
theorem z' (am:Am):∀(ss:List ByteArray) (a:Am),ss.foldl (DU am) a=a++ss.map fun s=>(s,(wL s am).getD 0)
 |[],a=>by simp
 |s::r,a=>by rw [List.foldl_cons,z' am r];simp [DU]
abbrev Rh (ps:Am):St:=⟨[(7,.aO 60040 ps.length)],[Bp am,Bq,(60040,.ao 2 (ps.map bV))]⟩
theorem Ri (ss:List ByteArray) (hl:ss.length<100000000) (hss:∀s,s∈ss→s∈dL am):
  ∃ps:Am,Lo 42 (O Tryz.f78 0) ⟨[(6,.aI 100003),(7,.ab),(26,sS ss),(27,sI ((ss.map AV.J).length:Nat)),(28,sI 0)],[Bp am,Bq]⟩ (.ar 0) (Rh am ps)∧ps.map Prod.fst=ss∧∀x,x∈ps→x∈am:=by
 have key:∀s,s∈dL am→∃m,wL s am=some m:=fun s hs=>by
  cases h:wL s am with
  |some m=>exact ⟨m,rfl⟩
  |none=>exact absurd hs (pG h)
 obtain ⟨h,_⟩:=be (P:=Tryz.prog) (n:=42) (c:=O Tryz.f78 0) (l:=ss) (k:=0) (fun i ps=>Ui am ss (i:Nat) ps) (fun ps=>(Rh am ps)) (DU am) (fun i ps=>ps.length≤i) (fun i a hi hI=>by
  have hs:ss[i]? =some ss[i]:=List.getElem?_eq_getElem hi
  obtain ⟨m,hm⟩:=key _ (hss _ (List.getElem_mem hi))
  obtain ⟨j,hf,hj⟩:=ra (i:=0) hm
  obtain ⟨e,t,⟨rfl,rfl⟩,r⟩:=t78 am a ss ss[i] m i hi hl (by omega) ⟨by omega,dD AV.J hs⟩ ⟨0+j,hf,by rw [Nat.zero_add];exact hj⟩
  exact ⟨_,_,⟨rfl,ss[i],hs,by unfold DU;rw [hm];rfl⟩,r⟩) (fun i a y _ hI=>by unfold DU;simp;omega) (fun a _=>au Tryz.f78 60000) [] (by simp)
 rw [z',List.nil_append] at h
 refine ⟨_,h.ez (b5 7 60040 2 rfl rfl),by rw [List.map_map];exact List.map_id _,fun x hx=> ?_⟩
 obtain ⟨s,hs,rfl⟩:=List.mem_map.1 hx
 obtain ⟨m,hm⟩:=key s (hss s hs)
 rw [hm]
 exact nt hm
end
end Go.Ped
