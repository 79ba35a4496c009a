/- What the functions of the packages magic and pedigreeref19 answer is proved for every input. -/
import Derived.Test.YthhfolohakiemaaGreatDoorMagH
import Derived.Test.YthhfolohakiemaaGreatDoorMagI
import Derived.Test.YthhfolohakiemaaGreatDoorMagT
set_option linter.all false
set_option maxRecDepth 20000
set_option maxHeartbeats 800000
namespace Go.Ped
open Go.RowKit Go.Proofs
section
variable (q1 q2:ByteArray) (ts:List Tm) (NS AS:List AV) (out:List Ru) (a:List Tm) (i:Nat)
abbrev Nq (q1 q2:ByteArray) (ts:List Tm) (NS AS:List AV) (out:List Ru) (a:List Tm) (i:Nat):St:=⟨[(2,.aF (ts.map Tm.av) false),(6,.aA 42006 0 0),(8,.aA 42008 0 0),(27,.aA 42027 0 0)],[(100000,.an [.aI 100001,.bZ 62 [] [.aA 100005 0 0]]),(100001,.aI NS AS),(100005,.an [.aX 3 (out.map Ru.av)]),(42006,.an [.aP .i8 0,.J ⟨#[]⟩,.ab,.aP .i8 0,.aP .i8 0,.J ⟨#[]⟩,.aP .i8 0,.aP .i64 0,.J ⟨#[]⟩,.ab,.aP .i8 0,.J ⟨#[]⟩,.aP .i8 0,.aP .i64 0,.J ⟨#[]⟩,.ab]),(42008,.an [.J (bF q1 q2),.aO 1000 a.length]),(42027,.iw (.stringIter q2 i)),(1000,.ao 4 (a.map Tm.av))]⟩
abbrev Un (q1 q2:ByteArray) (ts:List Tm) (NS AS:List AV) (out:List Ru) (a:List Tm):St:=⟨[(6,.aA 42006 0 0),(8,.aA 42008 0 0)],[(100000,.an [.aI 100001,.bZ 62 [] [.aA 100005 0 0]]),(100001,.aI NS AS),(100005,.an [.aX 3 (out.map Ru.av)]),(42006,.an [.aP .i8 0,.J ⟨#[]⟩,.ab,.aP .i8 0,.aP .i8 0,.J ⟨#[]⟩,.aP .i8 0,.aP .i64 0,.J ⟨#[]⟩,.ab,.aP .i8 0,.J ⟨#[]⟩,.aP .i8 0,.aP .i64 0,.J ⟨#[]⟩,.ab]),(42008,.an [.J (bF q1 q2),.aO 1000 a.length]),(1000,.ao 4 (a.map Tm.av))]⟩
theorem YV (y:Tm) (hn:aa NS=true∧aa AS=true) (ha:a.length≤i) (hi:i<100000000) (hd:i<q2.size∧∃k:Nat,(98:Int)=k∧Utf8.decode q2 i=(k,1)) (hx:0≤(i:Int)∧(ts.map Tm.av)[Int.toNat (i:Int)]? =some y.av):En 45 (O Tryz.f64 0) ((Nq q1 q2 ts NS AS out a i)) (fun e t=>e= .aj∧t=Nq q1 q2 ts NS AS out (a++[y]) (i+1)):=by
 exact ⟨cw.aj,St.mk [(2,AV.aF (List.map Tm.av ts) false),(6,AV.aA 42006 0 0),(8,AV.aA 42008 0 0),(27,AV.aA 42027 0 0)] [(100000,Ob.an [AV.aI 100001,AV.bZ 62 [] [AV.aA 100005 0 0]]),(100001,Ob.aI NS AS),(100005,Ob.an [AV.aX 3 (List.map Ru.av out)]),(42006,Ob.an [AV.aP .i8 0,AV.J (ByteArray.mk #[]),AV.ab,AV.aP .i8 0,AV.aP .i8 0,AV.J (ByteArray.mk #[]),AV.aP .i8 0,AV.aP .i64 0,AV.J (ByteArray.mk #[]),AV.ab,AV.aP .i8 0,AV.J (ByteArray.mk #[]),AV.aP .i8 0,AV.aP .i64 0,AV.J (ByteArray.mk #[]),AV.ab]),(42008,Ob.an [AV.J (bF q1 q2),AV.aO 1000 (List.length a+List.length [AV.al [AV.J y.1,AV.aP .i8 y.2,AV.aP .i64 y.3,AV.J y.4]])]),(42027,Ob.iw (Obj.stringIter q2 (i+1))),(1000,Ob.ao 4 (List.map Tm.av a++[AV.al [AV.J y.1,AV.aP .i8 y.2,AV.aP .i64 y.3,AV.J y.4]]))],⟨rfl,by (simp only [Nq,List.map_append,List.length_append];rfl)⟩,gA 42000 [.aA (.aP .i32 98),.is true,.aA (Tm.av y),.is true] [2,6,8,27] [K0 100000,K1 100001,K1 100005,K1 42006,K0 42008,K1 42027,(42041,.a6 1000 true)] (by kernel_rfl) (Z6 (show i<ByteArray.size q2∧
 ∃(k:Nat),
  98=(↑k:Int)∧
   Decidable.rec
     (fun (h:¬(fun (k:Nat)=>UInt8.toNat (ByteArray.get! q2 (i+k))) 0<128)=>
      (fun (x:¬(fun (k:Nat)=>UInt8.toNat (ByteArray.get! q2 (i+k))) 0<128)=>
        if ((fun (k:Nat)=>UInt8.toNat (ByteArray.get! q2 (i+k))) 0/32==6&&(fun (k:Nat)=>decide (i+k<ByteArray.size q2)&&(fun (k:Nat)=>UInt8.toNat (ByteArray.get! q2 (i+k))) k/64==2) 1)=true then
         have c:=(fun (k:Nat)=>UInt8.toNat (ByteArray.get! q2 (i+k))) 0%32*64+(fun (k:Nat)=>UInt8.toNat (ByteArray.get! q2 (i+k))) 1%64;
         if c≥128 then (c,2) else (Utf8.runeError,1)
        else
         if ((fun (k:Nat)=>UInt8.toNat (ByteArray.get! q2 (i+k))) 0/16==14&&(fun (k:Nat)=>decide (i+k<ByteArray.size q2)&&(fun (k:Nat)=>UInt8.toNat (ByteArray.get! q2 (i+k))) k/64==2) 1&&(fun (k:Nat)=>decide (i+k<ByteArray.size q2)&&(fun (k:Nat)=>UInt8.toNat (ByteArray.get! q2 (i+k))) k/64==2) 2)=true then
          have c:=(fun (k:Nat)=>UInt8.toNat (ByteArray.get! q2 (i+k))) 0%16*4096+(fun (k:Nat)=>UInt8.toNat (ByteArray.get! q2 (i+k))) 1%64*64+(fun (k:Nat)=>UInt8.toNat (ByteArray.get! q2 (i+k))) 2%64;
          if (decide (c≥2048)&&Utf8.valid (↑c:Int))=true then (c,3) else (Utf8.runeError,1)
         else
          if ((fun (k:Nat)=>UInt8.toNat (ByteArray.get! q2 (i+k))) 0/8==30&&(fun (k:Nat)=>decide (i+k<ByteArray.size q2)&&(fun (k:Nat)=>UInt8.toNat (ByteArray.get! q2 (i+k))) k/64==2) 1&&(fun (k:Nat)=>decide (i+k<ByteArray.size q2)&&(fun (k:Nat)=>UInt8.toNat (ByteArray.get! q2 (i+k))) k/64==2) 2&&(fun (k:Nat)=>decide (i+k<ByteArray.size q2)&&(fun (k:Nat)=>UInt8.toNat (ByteArray.get! q2 (i+k))) k/64==2) 3)=true then
           have c:=(fun (k:Nat)=>UInt8.toNat (ByteArray.get! q2 (i+k))) 0%8*262144+(fun (k:Nat)=>UInt8.toNat (ByteArray.get! q2 (i+k))) 1%64*4096+(fun (k:Nat)=>UInt8.toNat (ByteArray.get! q2 (i+k))) 2%64*64+(fun (k:Nat)=>UInt8.toNat (ByteArray.get! q2 (i+k))) 3%64;
           if (decide (c≥65536)&&Utf8.valid (↑c:Int))=true then (c,4) else (Utf8.runeError,1)
          else (Utf8.runeError,1))
       h)
     (fun (h:(fun (k:Nat)=>UInt8.toNat (ByteArray.get! q2 (i+k))) 0<128)=>(fun (x:(fun (k:Nat)=>UInt8.toNat (ByteArray.get! q2 (i+k))) 0<128)=>((fun (k:Nat)=>UInt8.toNat (ByteArray.get! q2 (i+k))) 0,1)) h) (Nat.decLt ((fun (k:Nat)=>UInt8.toNat (ByteArray.get! q2 (i+k))) 0) 128)=
    (k,1) from by assumption) rT hx (show 1≤List.length [AV.al [AV.J y.1,AV.aP .i8 y.2,AV.aP .i64 y.3,AV.J y.4]]∧List.length a=List.length (a.map Tm.av)∧(∀(e:AV),e∈[AV.al [AV.J y.1,AV.aP .i8 y.2,AV.aP .i64 y.3,AV.J y.4]]→c8 4 e)∧(∀(e:AV),e∈List.map Tm.av a→c8 4 e)∧(↑(List.length a+List.length [AV.al [AV.J y.1,AV.aP .i8 y.2,AV.aP .i64 y.3,AV.J y.4]]):Int)*48≤140737488355328∧List.length a+List.length [AV.al [AV.J y.1,AV.aP .i8 y.2,AV.aP .i64 y.3,AV.J y.4]]≤9223372036854775807 from by simp;omega) hn rT rT (show aa (List.map Tm.av a++[AV.al [AV.J y.1,AV.aP .i8 y.2,AV.aP .i64 y.3,AV.J y.4]])=true from by simp))⟩
theorem YW (hn:aa NS=true∧aa AS=true) (hd:i<q2.size∧∃k:Nat,(102:Int)=k∧Utf8.decode q2 i=(k,1)):En 45 (O Tryz.f64 0) ((Nq q1 q2 ts NS AS out a i)) (fun e t=>e= .aj∧t=Nq q1 q2 ts NS AS out a (i+1)):=by
 exact ⟨_,_,⟨rfl,rfl⟩,gA 42000 [.aA (.aP .i32 102),.is false] [2,6,8,27] [K0 100000,K1 100001,K1 100005,K1 42006,K0 42008,K1 42027,K1 1000] (by kernel_rfl) (Z5 (show i<ByteArray.size q2∧
 ∃(k:Nat),
  102=(↑k:Int)∧
   Decidable.rec
     (fun (h:¬(fun (k:Nat)=>UInt8.toNat (ByteArray.get! q2 (i+k))) 0<128)=>
      (fun (x:¬(fun (k:Nat)=>UInt8.toNat (ByteArray.get! q2 (i+k))) 0<128)=>
        if ((fun (k:Nat)=>UInt8.toNat (ByteArray.get! q2 (i+k))) 0/32==6&&(fun (k:Nat)=>decide (i+k<ByteArray.size q2)&&(fun (k:Nat)=>UInt8.toNat (ByteArray.get! q2 (i+k))) k/64==2) 1)=true then
         have c:=(fun (k:Nat)=>UInt8.toNat (ByteArray.get! q2 (i+k))) 0%32*64+(fun (k:Nat)=>UInt8.toNat (ByteArray.get! q2 (i+k))) 1%64;
         if c≥128 then (c,2) else (Utf8.runeError,1)
        else
         if ((fun (k:Nat)=>UInt8.toNat (ByteArray.get! q2 (i+k))) 0/16==14&&(fun (k:Nat)=>decide (i+k<ByteArray.size q2)&&(fun (k:Nat)=>UInt8.toNat (ByteArray.get! q2 (i+k))) k/64==2) 1&&(fun (k:Nat)=>decide (i+k<ByteArray.size q2)&&(fun (k:Nat)=>UInt8.toNat (ByteArray.get! q2 (i+k))) k/64==2) 2)=true then
          have c:=(fun (k:Nat)=>UInt8.toNat (ByteArray.get! q2 (i+k))) 0%16*4096+(fun (k:Nat)=>UInt8.toNat (ByteArray.get! q2 (i+k))) 1%64*64+(fun (k:Nat)=>UInt8.toNat (ByteArray.get! q2 (i+k))) 2%64;
          if (decide (c≥2048)&&Utf8.valid (↑c:Int))=true then (c,3) else (Utf8.runeError,1)
         else
          if ((fun (k:Nat)=>UInt8.toNat (ByteArray.get! q2 (i+k))) 0/8==30&&(fun (k:Nat)=>decide (i+k<ByteArray.size q2)&&(fun (k:Nat)=>UInt8.toNat (ByteArray.get! q2 (i+k))) k/64==2) 1&&(fun (k:Nat)=>decide (i+k<ByteArray.size q2)&&(fun (k:Nat)=>UInt8.toNat (ByteArray.get! q2 (i+k))) k/64==2) 2&&(fun (k:Nat)=>decide (i+k<ByteArray.size q2)&&(fun (k:Nat)=>UInt8.toNat (ByteArray.get! q2 (i+k))) k/64==2) 3)=true then
           have c:=(fun (k:Nat)=>UInt8.toNat (ByteArray.get! q2 (i+k))) 0%8*262144+(fun (k:Nat)=>UInt8.toNat (ByteArray.get! q2 (i+k))) 1%64*4096+(fun (k:Nat)=>UInt8.toNat (ByteArray.get! q2 (i+k))) 2%64*64+(fun (k:Nat)=>UInt8.toNat (ByteArray.get! q2 (i+k))) 3%64;
           if (decide (c≥65536)&&Utf8.valid (↑c:Int))=true then (c,4) else (Utf8.runeError,1)
          else (Utf8.runeError,1))
       h)
     (fun (h:(fun (k:Nat)=>UInt8.toNat (ByteArray.get! q2 (i+k))) 0<128)=>(fun (x:(fun (k:Nat)=>UInt8.toNat (ByteArray.get! q2 (i+k))) 0<128)=>((fun (k:Nat)=>UInt8.toNat (ByteArray.get! q2 (i+k))) 0,1)) h) (Nat.decLt ((fun (k:Nat)=>UInt8.toNat (ByteArray.get! q2 (i+k))) 0) 128)=
    (k,1) from by assumption) rF hn rT rT (show aa (a.map Tm.av)=true from by simp))⟩
theorem e64 (hn:aa NS=true∧aa AS=true) (hd:q2.size≤i):En 45 (O Tryz.f64 0) ((Nq q1 q2 ts NS AS out a i)) (fun e t=>e= .ar 0∧t=Un q1 q2 ts NS AS out a):=by
 exact gE ⟨rfl,rfl⟩ 42000 [.is false] [6,8] [K0 100000,K1 100001,K1 100005,K1 42006,K0 42008,K1 1000] (T9 hd hn rT rT (show aa (a.map Tm.av)=true from by simp))
theorem EQ {s:ByteArray} {i:Nat} {b:UInt8} (h:s.data.toList[i]? =some b) (hb:b.toNat<128):i<s.size∧Utf8.decode s i=(b.toNat,1):=by
 obtain ⟨h1,h2⟩:=List.getElem?_eq_some_iff.1 h
 have hs:i<s.size:=h1
 have e:s[i]'hs=b:=by rw [←h2];rfl
 refine ⟨hs,?_⟩
 rw [decode_ascii s i hs (by rw [e];exact hb),e]
theorem ER (q1 q2:ByteArray) (ts:List Tm) (NS AS:List AV) (out:List Ru) (hn:aa NS=true∧aa AS=true) (hs:sr q2) (hl:ts.length=q2.size) (hsm:ts.length<100000000):
  Lo 45 (O Tryz.f64 0) ⟨[(2,.aF (ts.map Tm.av) false),(6,.aA 42006 0 0),(8,.aA 42008 0 0),(27,.aA 42027 0 0)],[(100000,.an [.aI 100001,.bZ 62 [] [.aA 100005 0 0]]),(100001,.aI NS AS),(100005,.an [.aX 3 (out.map Ru.av)]),(42006,.an [.aP .i8 0,.J ⟨#[]⟩,.ab,.aP .i8 0,.aP .i8 0,.J ⟨#[]⟩,.aP .i8 0,.aP .i64 0,.J ⟨#[]⟩,.ab,.aP .i8 0,.J ⟨#[]⟩,.aP .i8 0,.aP .i64 0,.J ⟨#[]⟩,.ab]),(42008,.an [.J (bF q1 q2),.ab]),(42027,.iw (.stringIter q2 0))]⟩ (.ar 0) (Un q1 q2 ts NS AS out (eJ q2 ts)):=
 (be (l:=ts) (fun i a=>Nq q1 q2 ts NS AS out a.2 i) (fun a=>Un q1 q2 ts NS AS out a.2) (io q2) (fun i a=>a.1=i∧a.2.length≤i) (fun i a hi hI=>by
  obtain ⟨n,a⟩:=a
  obtain ⟨rfl,hI⟩:=hI
  simp only at hI
  have hy:=List.getElem?_eq_getElem hi
  have hb:q2.data.toList[n]? =some (q2.data.toList[n]'(by show n<q2.size;omega)):=List.getElem?_eq_getElem _
  rcases hs _ (List.mem_of_getElem? hb) with h|h
  ·rw [h] at hb
   obtain ⟨d1,d2⟩:=EQ hb (by decide)
   obtain ⟨e,t,⟨rfl,rfl⟩,r⟩:=YV q1 q2 ts NS AS out a n ts[n] hn hI (by omega) ⟨d1,98,rfl,d2⟩ ⟨by omega,dD Tm.av hy⟩
   exact ⟨_,_,⟨rfl,_,hy,by simp only [io,hb,if_true]⟩,r⟩
  ·rw [h] at hb
   obtain ⟨d1,d2⟩:=EQ hb (by decide)
   obtain ⟨e,t,⟨rfl,rfl⟩,r⟩:=YW q1 q2 ts NS AS out a n hn ⟨d1,102,rfl,d2⟩
   exact ⟨_,_,⟨rfl,_,hy,by simp [io,hb]⟩,r⟩) (fun i a y hy hI=>by
  obtain ⟨n,a⟩:=a
  obtain ⟨rfl,hI⟩:=hI
  simp only at hI
  unfold io
  refine ⟨rfl,?_⟩
  simp only
  split
  ·rw [List.length_append,List.length_singleton];omega
  ·omega) (fun a hI=>e64 q1 q2 ts NS AS out a.2 ts.length hn (by omega)) (0,[]) (by simp)).1.ez (eS (cs:=[.J (bF q1 q2),.ab]) 42008 1 1000 4 rfl rfl rfl)
theorem b64 (q1 q2:ByteArray) (ts:List Tm) (NS AS:List AV) (out:List Ru) (nm:ByteArray) (M:List Tm) (hn:aa NS=true∧aa AS=true) (h1:q1.size<1000) (h2:q2.size<1000) (hf:∃j,bs true (.J nm) NS 0=some (some j)∧AS[j]? =some (.al [.J q1,.J q2])) (l64_0q:Lo 45 (O Tryz.f64 0) ⟨[(2,.aF (ts.map Tm.av) false),(6,.aA 42006 0 0),(8,.aA 42008 0 0),(27,.aA 42027 0 0)],[(100000,.an [.aI 100001,.bZ 62 [] [.aA 100005 0 0]]),(100001,.aI NS AS),(100005,.an [.aX 3 (out.map Ru.av)]),(42006,.an [.aP .i8 0,.J ⟨#[]⟩,.ab,.aP .i8 0,.aP .i8 0,.J ⟨#[]⟩,.aP .i8 0,.aP .i64 0,.J ⟨#[]⟩,.ab,.aP .i8 0,.J ⟨#[]⟩,.aP .i8 0,.aP .i64 0,.J ⟨#[]⟩,.ab]),(42008,.an [.J (bF q1 q2),.ab]),(42027,.iw (.stringIter q2 0))]⟩ (.ar 0) (Un q1 q2 ts NS AS out M)):En 45 (ai Tryz.f64) ⟨[(0,.aA 100000 0 0),(1,.J nm),(2,.aF (ts.map Tm.av) false)],[(100000,.an [.aI 100001,.bZ 62 [] [.aA 100005 0 0]]),(100001,.aI NS AS),(100005,.an [.aX 3 (out.map Ru.av)])]⟩ (fun e t=>e= .aR∧t=⟨[(6,.aA 42006 0 0)],[(100000,.an [.aI 100001,.bZ 62 [] [.aA 100005 0 0]]),(100001,.aI NS AS),(100005,.an [.aX 3 (out.map Ru.av)]),(42006,.an [.aP .i8 1,.J (bF q1 q2),.aF (M.map Tm.av) false,.aP .i8 0,.aP .i8 0,.J ⟨#[]⟩,.aP .i8 0,.aP .i64 0,.J ⟨#[]⟩,.ab,.aP .i8 0,.J ⟨#[]⟩,.aP .i8 0,.aP .i64 0,.J ⟨#[]⟩,.ab])]⟩):=by
 have hl0:=l64_0q
 exact gE ⟨rfl,rfl⟩ 42000 [.aA (.al [.J q1,.J q2]),.g8 [2,6,8,27] [K0 100000,K1 100001,K1 100005,K1 42006,K1 42008,K1 42027],.B3 (.ar 0) [(6,.aA 42006 0 0),(8,.aA 42008 0 0)] [(100000,.an [.aI 100001,.bZ 62 [] [.aA 100005 0 0]]),(100001,.aI NS AS),(100005,.an [.aX 3 (out.map Ru.av)]),(42006,.an [.aP .i8 0,.J (ByteArray.mk #[]),.ab,.aP .i8 0,.aP .i8 0,.J (ByteArray.mk #[]),.aP .i8 0,.aP .i64 0,.J (ByteArray.mk #[]),.ab,.aP .i8 0,.J (ByteArray.mk #[]),.aP .i8 0,.aP .i64 0,.J (ByteArray.mk #[]),.ab]),(42008,.an [.J (bF q1 q2),.aO 1000 M.length]),(1000,.ao 4 (M.map Tm.av))]] [6] [K0 100000,K1 100001,K1 100005,K0 42006,(1000,.dz)] (Kw hf (show 4+ByteArray.size q2≤9223372036854775807 from by omega) (show ByteArray.size (ByteArray.mk #[113,95,109,95]++q2)+1≤9223372036854775807 from by (have e1:(ByteArray.mk #[113,95,109,95]).size=4:=rfl;have e2:(ByteArray.mk #[95]).size=1:=rfl;simp only [ByteArray.size_append,e1,e2];omega)) (show ByteArray.size (ByteArray.mk #[113,95,109,95]++q2++ByteArray.mk #[95])+ByteArray.size q1≤9223372036854775807 from by (have e1:(ByteArray.mk #[113,95,109,95]).size=4:=rfl;have e2:(ByteArray.mk #[95]).size=1:=rfl;simp only [ByteArray.size_append,e1,e2];omega)) hn rT rT rT hl0 hn rT (show List.length M=List.length (M.map Tm.av) from by simp) (show aa (M.map Tm.av)=true from by simp))
theorem bK.xf {P:Program} {f:FuncId} {args:List AV} {pre L nw:List (Nat×Ob)} {r:AV} (h:bK P f args pre r (L++nw)) (hu:∀x,x∈L→x∈pre):bK P f args pre r nw:=by
 intro F S β hp w vs M hl hv hpre hfr
 have hput:∀(l:List (Nat×Ob)) (h:List (Nat×Ob)),(∀id o,(id,o)∈l→ae h id=some o)→∀k,ae (bc h l) k=ae h k:=by
  intro l
  induction l with
  |nil=>intro h _ k;rfl
  |cons x l ih=>
   obtain ⟨i,o⟩:=x
   intro h hh k
   have h1:∀k,ae (ba h i o) k=ae h k:=by
    intro k
    rw [aq]
    by_cases e:i=k
    ·subst e;rw [if_pos rfl];exact (hh i o (by simp)).symm
    ·rw [if_neg e]
   show ae (bc (ba h i o) l) k=_
   rw [ih (ba h i o) (fun id o' hm=>by rw [h1];exact hh id o' (List.mem_cons_of_mem _ hm)) k,h1]
 have cong:∀(l:List (Nat×Ob)) (h1 h2:List (Nat×Ob)),(∀k,ae h1 k=ae h2 k)→∀k,ae (bc h1 l) k=ae (bc h2 l) k:=by
  intro l
  induction l with
  |nil=>intro h1 h2 e k;exact e k
  |cons x l ih=>
   intro h1 h2 e k
   exact ih (ba h1 x.1 x.2) (ba h2 x.1 x.2) (fun k=>by rw [aq,aq,e]) k
 have app:∀(l:List (Nat×Ob)) (h:List (Nat×Ob)),bc h (l++nw)=bc (bc h l) nw:=by
  intro l
  induction l with
  |nil=>intro h;rfl
  |cons x l ih=>intro h;exact ih (ba h x.1 x.2)
 refine (h F S β hp w vs M hl hv hpre (fun id o hm hno=>by
  rcases List.mem_append.1 hm with h1|h1
  ·exact absurd (hu _ h1) (hno o)
  ·exact hfr id o h1 hno)).mono ?_
 rintro e w' ⟨v,S',β',rfl,E,M',hV⟩
 change b7 F S' β' (bc hp (L++nw)) w' at M'
 rw [app] at M'
 have hk:=cong nw _ _ (hput L hp (fun id o hm=>hpre id o (hu _ hm)))
 refine ⟨v,S',β',rfl,E,?_,hV⟩
 show b7 F S' β' (bc hp nw) w'
 exact M'.hJ hk
@[reducible] def SQ (NS AS:List AV) (out:List Ru):List (Nat×Ob):=[(100000,.an [.aI 100001,.bZ 62 [] [.aA 100005 0 0]]),(100001,.aI NS AS),(100005,.an [.aX 3 (out.map Ru.av)])]
theorem yR (hn:aa NS=true∧aa AS=true):∀id o,(id,o)∈SQ NS AS out→bg (gX (SQ NS AS out)) o=o:=by
 intro id o hm
 simp only [SQ,List.mem_cons,Prod.mk.injEq,List.not_mem_nil,or_false] at hm
 rcases hm with ⟨rfl,rfl⟩|⟨rfl,rfl⟩|⟨rfl,rfl⟩
 ·rfl
 ·simp only [bg,aM _ _ hn.1,aM _ _ hn.2]
 ·rfl
theorem SR (nm:ByteArray) (hn:aa NS=true∧aa AS=true) (h1:q1.size<1000) (h2:q2.size<1000) (hs:sr q2) (hl:ts.length=q2.size) (hf:∃j,bs true (.J nm) NS 0=some (some j)∧AS[j]? =some (.al [.J q1,.J q2])):
  Sp 64 [.aA 100000 0 0,.J nm,sT ts] (SQ NS AS out) (eR (bF q1 q2) (eJ q2 ts)).av [(42006,.an [sJ 1,.J (bF q1 q2),sT (eJ q2 ts),sJ 0,sJ 0,.J ⟨#[]⟩,sJ 0,sI 0,.J ⟨#[]⟩,.ab,sJ 0,.J ⟨#[]⟩,sJ 0,sI 0,.J ⟨#[]⟩,.ab])]:=by
 obtain ⟨_,_,⟨rfl,rfl⟩,h⟩:=b64 q1 q2 ts NS AS out nm (eJ q2 ts) hn h1 h2 hf (ER q1 q2 ts NS AS out hn hs hl (by omega))
 refine bK.xf (L:=SQ NS AS out) ?_ (fun _ h=>h)
 exact bK.vS (sG Tryz.f64 (yR NS AS out hn) h (.inr rfl)) (jj _ _).al
end
section
variable (x:Ru)
theorem YX:EN 7 (ai Tryz.f62) ⟨[(0,.al [.J x.p,sA x.hd,sL x.bd]),(1,.aA 100005 0 0)],[(100005,.an [.ab])]⟩ ⟨[],[(100005,.an [.aw 60050 0 1]),(60050,.aw 3 [x.av])]⟩:=au Tryz.f62 60000
theorem YY (out:List Ru) (ho:out.length<1000000000000):EN 7 (ai Tryz.f62) ⟨[(0,.al [.J x.p,sA x.hd,sL x.bd]),(1,.aA 100005 0 0)],[(100005,.an [.aw 60500 0 (out.map Ru.av).length]),(60500,.aw 3 (out.map Ru.av))]⟩ ⟨[],[(100005,.an [.aw 60050 0 ((out.map Ru.av).length+1)]),(60050,.aw 3 (out.map Ru.av++[x.av]))]⟩:=au Tryz.f62 60000
abbrev Nr (out:List Ru):Nat×Ob:=(100005,.an [.aX 3 (out.map Ru.av)])
theorem Ns (out:List Ru) (ho:out.length<1000000000000):Sp 62 [x.av,.aA 100005 0 0] [Nr out] (.bC []) [(100005,.an [.aX 3 ((out++[x]).map Ru.av)])]:=by
 have cl:∀(es:List AV) (m:Nat) (st:St),m=es.length→0<m→aa es=true→Rz 7 (ai Tryz.f62) st .aj ⟨[],[(100005,.an [.aw 60050 0 m]),(60050,.aw 3 es)]⟩→Rz 7 (ai Tryz.f62) st .aj ⟨[],[(100005,.an [.aX 3 es])]⟩:=by
  intro es m st hm h0 h1 h
  subst hm
  have ht:es.take es.length=es:=List.take_length
  have k:=h.gV (iH (st:=⟨_,[(100005,.an [.aw 60050 0 es.length]),(60050,.aw 3 es)]⟩) 100005 0 60050 (o:= .an [.aw 60050 0 es.length]) rfl rfl rfl h0 (Nat.le_refl _) (by rw [ht];exact h1) (by simp [mid]))
  rw [ht] at k
  exact k.fb [] [K0 100005] (cs:=[]) rfl trivial
 have fin:Rz 7 (ai Tryz.f62) ⟨bO 0 [x.av,.aA 100005 0 0],[Nr out]⟩ .aj ⟨[],[(100005,.an [.aX 3 ((out++[x]).map Ru.av)])]⟩:=by
  by_cases hn:out=[]
  ·subst hn
   obtain ⟨e,t,⟨rfl,rfl⟩,h⟩:=YX x
   have k:=cl [x.av] 1 _ rfl (by simp) (by simp [aa,qq]) h
   exact k.ez (gJ (st:=⟨_,[(100005,.an [.aX 3 []])]⟩) 100005 0 (sz:=3) rfl rfl)
  ·obtain ⟨e,t,⟨rfl,rfl⟩,h⟩:=YY x out ho
   have k:=cl (out.map Ru.av++[x.av]) _ _ (by simp) (by simp) (by simp [qq]) h
   have k2:=k.ez (gm (st:=⟨_,[Nr out]⟩) 100005 0 60500 (sz:=3) rfl rfl (by simpa using hn) rfl (by simp [mid]))
   have e1:out.map Ru.av++[x.av]=(out++[x]).map Ru.av:=by simp
   rw [e1] at k2
   exact k2
 exact sG Tryz.f62 (fun id o hm=>by simp only [List.mem_singleton,Prod.mk.injEq] at hm;obtain ⟨rfl,rfl⟩:=hm;rfl) fin (.inl rfl)
end
section
variable (x:Ru) (o:Nat) (NS AS:List AV) (out:List Ru) (part ah:List Li) (k:Nat)
def N0 (a:List Tm) (y:Ar):List Tm:=a++[y.t]
abbrev BQ:Nat×AV:=(0,.aA 100000 0 0)
abbrev ES:Nat×AV:=(4,.aA 44004 0 0)
abbrev BR:Nat×AV:=(6,.aA 44006 0 0)
abbrev BS:Nat×Ob:=(100000,.an [.aI 100001,.bZ 62 [] [.aA 100005 0 0]])
abbrev BT:Nat×Ob:=(100001,.aI NS AS)
abbrev BU:Nat×Ob:=(100005,.an [.aX 3 (out.map Ru.av)])
abbrev SS (x:Ru) (o:Nat) (NS AS:List AV) (out:List Ru) (a:List Tm) (i:Int):St:=⟨[BQ,(2,sI o),ES,BR,(21,sA x.hd),(22,sI ((x.hd.map Ar.av).length:Nat)),(23,sI i)],[BS,BT NS AS,BU out,(44004,.an [.J x.p,sA x.hd,sL x.bd]),(44006,.an [.J x.p,.aO 1000 a.length]),(1000,.ao 4 (a.map Tm.av))]⟩
attribute [local simp,local grind] N0 in
theorem Nt (hn:aa NS=true∧aa AS=true) (hsm:x.hd.length<100000000):Lo 131 (O Tryz.f63 0) ⟨[BQ,(2,sI o),ES,BR,(21,sA x.hd),(22,sI ((x.hd.map Ar.av).length:Nat)),(23,sI 0)],[BS,BT NS AS,BU out,(44004,.an [.J x.p,sA x.hd,sL x.bd]),(44006,.an [.J x.p,.ab])]⟩ (.ar 0) ⟨[BQ,(2,sI o),ES,BR],[BS,BT NS AS,BU out,(44004,.an [.J x.p,sA x.hd,sL x.bd]),(44006,.an [.J x.p,.aO 1000 (x.hd.foldl N0 []).length]),(1000,.ao 4 ((x.hd.foldl N0 []).map Tm.av))]⟩:=
 (be (l:=x.hd) (fun i a=>SS x o NS AS out a (i:Nat)) (fun a=>⟨[BQ,(2,sI o),ES,BR],[BS,BT NS AS,BU out,(44004,.an [.J x.p,sA x.hd,sL x.bd]),(44006,.an [.J x.p,.aO 1000 a.length]),(1000,.ao 4 (a.map Tm.av))]⟩) N0 (fun i a=>a.length≤i) (fun i a hi hI=>au Tryz.f63 44000) (fun i a y hy hI=>by (unfold N0;simp only [List.length_append,List.length_singleton];omega)) (fun a hI=>au Tryz.f63 44000) [] (by simp<;>assumption)).1.ez (eS (cs:=[.J x.p,.ab]) 44006 1 1000 4 rfl rfl rfl)
abbrev E9 (x:Ru) (o:Nat) (NS AS:List AV) (out:List Ru) (part ah:List Li) (k:Nat) (i:Int):St:=⟨[BQ,(2,sI o),ES,BR,(9,.aO 1009 part.length),(10,.aO 1010 ah.length),(11,sI k),(45,sL x.bd),(46,sI ((x.bd.map Li.av).length:Nat)),(47,sI i)],[BS,BT NS AS,BU out,(44004,.an [.J x.p,sA x.hd,sL x.bd]),(44006,.an [.J x.p,sT (x.hd.map Ar.t)]),(1009,.ao 16 (part.map Li.av)),(1010,.ao 16 (ah.map Li.av))]⟩
theorem Y0 (i:Nat) (y:Li) (hn:aa NS=true∧aa AS=true) (hi:i<x.bd.length) (hsm:x.bd.length≤1000) (hp:part.length≤2000) (hah:ah.length≤2000) (hx:0≤(i:Int)∧(x.bd.map Li.av)[Int.toNat (i:Int)]? =some (.al y.ac)) (hf:bs true (.J y.p) NS 0=some none):En 131 (O Tryz.f63 1) ((E9 x o NS AS out part ah k i)) (fun e t=>e= .aj∧t=E9 x o NS AS out (part++[y]) (ah++[y]) k ((i+1:Nat):Int)):=au Tryz.f63 44000
theorem ET {n:Nat} {st:St} (id:Nat) {sz:Nat} {es ds:List AV} (ho:ae st.hp id=some (.aw sz es)) (hl:es.length=ds.length) (hw:∀(i:Nat) x y,es[i]? =some x→ds[i]? =some y→uF x.ac y.ac):Le n st ⟨st.dA,ba st.hp id (.aw sz ds)⟩:=by
 rintro F a w ⟨S,β,E,M⟩
 obtain ⟨bi,h1,h2,cur,t,g1,g2,g3,g4,g5,g6⟩:=M.dg id _ ho
 have old:∀{i:Nat} {e:AV},ds[i]? =some e→∃x,es[i]? =some x∧uF x.ac e.ac:=fun {i e} h=>by
  have hj:i<es.length:=by rw [hl];exact (List.getElem?_eq_some_iff.1 h).1
  exact ⟨_,List.getElem?_eq_getElem hj,hw i _ e (List.getElem?_eq_getElem hj) h⟩
 obtain ⟨x,M'⟩:=M.cR (w':=w) h1 ho (by simp) ⟨rfl,rfl,rfl,Nat.le_refl _,fun _ _ _=>rfl⟩ (.aw sz ds) ⟨bi,h1,h2,cur,t,g1,g2,by rw [←hl];exact g3,g4,fun i e h=>by
  obtain ⟨x,hx,k⟩:=old h
  rw [←k.kx.1];exact g5 i x hx,fun i j e c h k=>by
  obtain ⟨x,hx,q⟩:=old h
  have hj:j<x.ac.length:=by rw [q.kx.1];exact (List.getElem?_eq_some_iff.1 k).1
  obtain ⟨u,hu,hv⟩:=g6 i j x _ hx (List.getElem?_eq_getElem hj)
  exact ⟨u,hu,(q.kx.2 j _ c (List.getElem?_eq_getElem hj) k).V hv⟩⟩ (fun j sz es h=>by cases h)
 exact ⟨S,β,E,M'⟩
theorem YZ (i:Nat) (y:Li) (q1 q2:ByteArray) (hn:aa NS=true∧aa AS=true) (hi:i<x.bd.length) (hsm:x.bd.length≤1000) (hp:part.length≤2000) (hah:ah.length≤2000) (hx:0≤(i:Int)∧(x.bd.map Li.av)[Int.toNat (i:Int)]? =some (.al y.ac)) (hf:∃j,bs true (.J y.p) NS 0=some (some j)∧AS[j]? =some (.al [.J q1,.J q2])) (hk:decide (y.k=1)=false):En 131 (O Tryz.f63 1) ((E9 x o NS AS out part ah k i)) (fun e t=>e= .aj∧t=E9 x o NS AS out (part++[y]) (ah++[y]) k ((i+1:Nat):Int)):=au Tryz.f63 44000
theorem e63 (hn:aa NS=true∧aa AS=true):En 131 (O Tryz.f63 1) ((E9 x o NS AS out part ah k (x.bd.length:Nat))) (fun e t=>e= .ar 2∧t=⟨[BQ,BR,(9,sL part)],[BS,BT NS AS,BU out,(44006,.an [.J x.p,sT (x.hd.map Ar.t)])]⟩):=au Tryz.f63 44000
end
theorem IB (l:List Ar):l.foldl N0 []=l.map Ar.t:=by
 have:=nG Ar.t l []
 rw [List.nil_append] at this
 exact this
abbrev IA (m:Li):Nat×Ob:=(100000,.aw 16 [m.av])
theorem Y1 (m:Li):En 8 (ai Tryz.f82) ⟨[(0,.aw 100000 0 1)],[IA m]⟩ (fun e t=>e= .aR∧t=⟨[(2,.aw 45007 0 1)],[IA m,(45007,.aw 16 [m.av])]⟩):=au Tryz.f82 45000
theorem Y2 (m:Li):Sp 82 [.aw 44041 0 1] [(44041,.aw 16 [m.av])] (.aw 45007 0 1) [(45007,.aw 16 [m.av])]:=by
 obtain ⟨_,_,⟨rfl,rfl⟩,h⟩:=Y1 m
 have hm:∀ρ,bW ρ [m.av]=[m.av]:=fun ρ=>aM _ _ (by simp [aa,et])
 have h1:Sp 82 [.aw 100000 0 1] [IA m] (.aw 45007 0 1) ([IA m]++[(45007,.aw 16 [m.av])]):=sG Tryz.f82 (fun id o hm'=>by simp only [List.mem_singleton,Prod.mk.injEq] at hm';obtain ⟨rfl,rfl⟩:=hm';simp only [bg,hm]) h (.inr rfl)
 have h2:=h1.gK [(100000,44041,.aw 16 [m.av])] [(100000,44041),(45007,45007)] (args':=[.aw 44041 0 1]) rfl (by simp only [List.map_cons,List.map_nil,bg,hm]) (by kernel_rfl)
 simp only [List.map_cons,List.map_nil,List.map_append,bg,hm] at h2
 exact bK.xf h2 (fun _ h=>h)
end Go.Ped
namespace Go.Ped
open Go.RowKit
theorem bK.IC {P:Program} {f:FuncId} {args args' cells:List AV} {d n sz:Nat} (h:bK P f args [] (.aO d n) [(d,.ao sz cells)]) (hmid:d<mid) (hn:n=cells.length) (hcb:∀e,e∈cells→∀c,c∈e.ac→mY c=true) (L:List (Nat×Ob)) (hd:L.all (fun x=> !mf x.2)=true) (hb:∀x,x∈L→∀p,p∈dl x.2→p)
  (hA:bW (dK L) args'=args) (hc:∀p,p∈cu (dK L) args'→p):bK P f args' L (.aF cells false) []:=by
 intro F S β hp w vs M hl hv hpl _
 have live:∀{id:Nat} {o:Ob},(id,o)∈L→o≠ .aB∧∀b,o≠ .iw b:=by
  intro id o hm
  have:=List.all_eq_true.1 hd _ hm
  constructor
  ·rintro rfl;grind[mf]
  ·rintro b rfl;grind[mf]
 let S1:df:=fun b=>S b∨∃id o bi,(id,o)∈L∧β id=some bi∧b=bi.bG
 have hS:∀b,S b→S1 b:=fun b h=> .inl h
 let F1:Fr:={w0:=w,S0:=S1,M:=fun _=>False,β0:=fo}
 have T:Cx S S1 β fo w (dK L):=by
  refine ⟨hS,fun id j bi hj hb'=> ?_,fun id es bi hj hb'=> ?_,fun id es xs bi hj=> ?_,fun id es bi hj hb' hne=> ?_,fun id cs bi hj hb'=> ?_,fun id ks vs bi hj hb'=> ?_⟩
  ·obtain ⟨o,e,hm⟩:=cH hj
   cases o with
   |aB=>grind
   |iw b=>grind
   |_=>cases e
  ·obtain ⟨o,e,hm⟩:=cH hj
   cases o with
   |aw sz es'=>
    injection e with e;subst e
    obtain ⟨bj,q1,q2,q3⟩:=M.dg id _ (hpl _ _ hm)
    rw [hb'] at q1;injection q1 with q1;subst q1
    exact ⟨.inr ⟨id,_,bi,hm,hb',rfl⟩,q3.mC hS (hb _ hm _ (List.mem_singleton.2 rfl))⟩
   |_=>cases e
  ·obtain ⟨o,e,hm⟩:=cH hj
   cases o<;>cases e
  ·obtain ⟨o,e,hm⟩:=cH hj
   cases o with
   |ao sz es'=>
    injection e with e;subst e
    obtain ⟨bj,q1,q2,q3⟩:=(M.dg id _ (hpl _ _ hm)).resolve_left hne
    rw [hb'] at q1;injection q1 with q1;subst q1
    exact ⟨.inr ⟨id,_,bi,hm,hb',rfl⟩,q3.mC hS (hb _ hm _ (List.mem_singleton.2 rfl))⟩
   |_=>cases e
  ·obtain ⟨o,e,hm⟩:=cH hj
   cases o with
   |an cs'=>
    injection e with e;subst e
    obtain ⟨bj,q1,q2,q3⟩:=M.dg id _ (hpl _ _ hm)
    rw [hb'] at q1;injection q1 with q1;subst q1
    have hn:aa cs=true:=hb _ hm _ (List.mem_singleton.2 rfl)
    exact ⟨.inr ⟨id,_,bi,hm,hb',rfl⟩,q3.mC hS (by grind[aa,Ped.aJ])⟩
   |_=>cases e
  ·obtain ⟨o,e,hm⟩:=cH hj
   cases o with
   |aI ks' vs'=>
    injection e with e e';subst e;subst e'
    obtain ⟨bj,es,cl,q1,q2,q3,q4,q5,q6,_⟩:=M.dg id _ (hpl _ _ hm)
    rw [hb'] at q1;injection q1 with q1;subst q1
    obtain ⟨n1,n2⟩:=hb _ hm _ (List.mem_singleton.2 rfl)
    exact ⟨.inr ⟨id,_,bi,hm,hb',rfl⟩,es,cl,q2,q3,q4,fun i e k he hk=>((q5 i e k he hk).aJ (a8.1 n1 k (List.mem_of_getElem? hk))).bR hS (fun _ _ h=>h) (nI.bb S w),
     fun i e v he hv=>((q6 i e v he hv).aJ (a8.1 n2 v (List.mem_of_getElem? hv))).bR hS (fun _ _ h=>h) (nI.bb S w)⟩
   |_=>cases e
 have hsub:∀b,S1 b→b<w.heap.size:=by
  rintro b (hs|⟨id,o,bi,_,hb',rfl⟩)
  ·exact M.sub b hs
  ·exact (M.aX id bi hb').2.1
 have M1:b7 F1 S1 fo [] w:=b7.pj ⟨⟨M.tP.1,fun h=>h⟩,rfl,rfl,rfl,Nat.le_refl _,fun _ _ _=>rfl,fun id o h=>(by cases h),fun id bi h=>(by cases h),fun i j bi bj h=>(by cases h),fun i bi h=>(by cases h),hsub,fun _ h=>h,fun _ h=> .inl h,fun i b _ h=>h⟩ (fun _=>NK.yV (fun id o j sz es h=>by cases h))
 have hl1:vs.length=args.length:=by grind[dX,List.length_map]
 have hcall:=h F1 S1 fo [] w vs M1 hl1 (fun i v x h1 h2=>by
  rw [←hA] at h2
  obtain ⟨c0,h3,rfl⟩:=dI h2
  exact (hv i v c0 h1 h3).dB T (dh hc c0 (List.mem_of_getElem? h3))) (fun id o hm=>by grind) (fun id o hm _=>rfl)
 refine hcall.mono ?_
 rintro e w' ⟨v,S',β',rfl,E',M',hV⟩
 cases hV with
 |ft id=>
  have h0:cells=[]:=List.length_eq_zero_iff.1 hn.symm
  subst h0
  obtain ⟨x,m⟩:=M.lO (S':=fun b=>S b∨(S' b∧w.heap.size≤b)) (w':=w') (fun b h=> .inl h) (fun b h=>h.imp (fun h=>h) (fun h=>h.2)) (fun b h=>h.elim (fun h=>Nat.lt_of_lt_of_le (M.sub b h) M'.b6) (fun h=>M'.sub b h.1)) M'.os M'.eL M'.cc M'.b6 (fun b hb=>M'.a6 b hb (fun h=>h))
  exact ⟨_,_,β,rfl,x,m,.aF none 0 0 0 0 [] false (fun _ _=>undef) (by simp) (by simp) (fun h=>by rfl) (fun h=>absurd rfl h) (by simp) (by simp) (by simp)⟩
 |ix id len a bi hb hle ha hnn=>
  subst hn
  rcases M'.dg d (.ao sz cells) (by simp[ba,ae]) with h0|⟨bj,q1,q2,cur,t,c1,c2,c3,c4,c5,c6⟩
  ·grind
  ·rw [hb] at q1;injection q1 with q1;subst q1
   have ho:=M'.aX d bi hb
   have hnew:w.heap.size≤bi.bG:=ho.2.2.elim (fun q=>absurd q.1 (Nat.not_le.2 hmid)) (fun q=>q)
   obtain ⟨x,m⟩:=M.lO (S':=fun b=>S b∨((S' b∨b=bi.bG)∧w.heap.size≤b)) (w':=w') (fun b h=> .inl h) (fun b h=>h.imp (fun h=>h) (fun h=>h.2)) (fun b h=>h.elim (fun h=>Nat.lt_of_lt_of_le (M.sub b h) M'.b6) (fun h=>h.1.elim (fun h=>M'.sub b h) (fun h=>by omega))) M'.os M'.eL M'.cc M'.b6 (fun b hb=>M'.a6 b hb (fun h=>h))
   refine ⟨_,_,β,rfl,x,m,.aF (some a) bi.f5 bi.sz bi.bG 0 cells false (fun i j=>(cur[i*bi.sz+j]?).getD undef) c3 c4 (fun h=>by grind) (fun _=>⟨by grind,.inr ⟨.inr rfl,hnew⟩⟩) c5 (fun i j e c h1 h2=> ?_) (fun i j e c h1 h2=> ?_) (fun h=>by grind)⟩
   ·grind[World.cell?]
   ·obtain ⟨u,h3,h4⟩:=c6 i j e c h1 h2
    rw [h3]
    exact h4.mC (hcb e (List.mem_of_getElem? h1) c (List.mem_of_getElem? h2))
end Go.Ped
namespace Go.Ped
open Go.RowKit Go.Proofs
section
variable (p:ByteArray) (ts:List Tm) (bd:List Li) (es:List AV)
theorem SW (hd:List Ar) (ah re:List Li) (need l:List ByteArray) (M:List Tm) (k91x:Sp 91 [.al [.J ⟨#[]⟩,sA hd,sL re]] [] (sS need) []) (k91p:Sp 91 [.al [.J ⟨#[]⟩,.ab,sL ah]] [] (sS l) []) (l113_0q:Lo 33 (O Tryz.f113 0) ⟨[(7,sS need),(8,.ab),(17,sS l),(18,sI ((l.map AV.J).length:Nat)),(19,sI 0)],[]⟩ (.ar 0) ⟨[(8,.aO 1000 M.length)],[(1000,.ao 4 (M.map Tm.av))]⟩):
 En 33 (ai Tryz.f113) ⟨[(0,sL ah),(1,sL re),(2,sA hd)],[]⟩ (fun e t=>e= .aR∧t=⟨[(6,.aO 1000 M.length)],[(1000,.ao 4 (M.map Tm.av))]⟩):=au Tryz.f113 2000
theorem IE (l:List Tm):∀e,e∈l.map Tm.av→∀c,c∈e.ac→mY c=true:=by
 intro e he c hc
 obtain ⟨t,_,rfl⟩:=List.mem_map.1 he
 simp only [Tm.av,AV.ac,List.mem_cons,List.not_mem_nil,or_false] at hc
 rcases hc with rfl|rfl|rfl|rfl<;>rfl
theorem S4 (ah re:List Li) (hd:List Ar) (h1:hd.length+(az re).length<1000000) (h2:(az ah).length<1000000) (h3:ah.length≤1000000) (h4:re.length≤1000000):Sp 113 [.aO 1010 ah.length,sL re,sA hd] [(1010,.ao 16 (ah.map Li.av))] (sT (BP ah re hd)) []:=by
 have s1:=OY ⟨#[]⟩ hd re (by omega) (by simp;omega)
 have s2:Sp 91 [.al [.J ⟨#[]⟩,.ab,sL ah]] [] (sS (ay (az ah))) []:=(OY ⟨#[]⟩ [] ah (by omega) (by simp;omega)).Dq (.bz (uF.al (.bz (.bb _) (.bz .ab (.bz (.bb _) .iV)))) .iV)
 have hv:=bU (az ah)
 have hw:=bU (hd.map Ar.t++az re)
 rw [List.length_append,List.length_map] at hw
 obtain ⟨_,_,⟨rfl,rfl⟩,h⟩:=SW hd ah re _ _ (BP ah re hd) s1 s2 (Iy _ _ (by omega) (by omega))
 have k:Sp 113 [sL ah,sL re,sA hd] [] (.aO 1000 (BP ah re hd).length) [(1000,.ao 4 ((BP ah re hd).map Tm.av))]:=bK.CB (st':=⟨[(6,.aO 1000 (BP ah re hd).length)],[(1000,.ao 4 ((BP ah re hd).map Tm.av))]⟩) (fn:=Tryz.f113) (c:=ai Tryz.f113) (by kernel_rfl) (by kernel_rfl) rfl rfl h.p (.inr rfl) (by kernel_rfl)
 exact k.IC (by simp [mid]) (by simp) (IE _) [(1010,.ao 16 (ah.map Li.av))] rfl (by simp [dl]) rfl (by simp [cu,el,dK,ae,eX])
abbrev BV:Nat×AV:=(4,.aA 2004 0 0)
abbrev ID:Nat×AV:=(5,.aA 2005 0 0)
abbrev ST:Nat×Ob:=(2004,.an [.J ⟨#[]⟩,.ab,.ab])
abbrev Y3 (a:List Ar):Nat×Ob:=(2005,.an [.J p,.aO 1000 a.length,.aw 2012 0 bd.length])
abbrev SU (a:List Ar):List (Nat×Ob):=[ST,Y3 p bd a,(2012,.aw 16 (bd.map Li.av)),(1000,.ao 5 (a.map Ar.av)),(100000,.ao 16 (bd.map Li.av))]
abbrev tE (p:ByteArray) (ts:List Tm) (bd:List Li) (a:List Ar) (i:Int):St:=⟨[BV,ID,(19,sT ts),(20,sI ((ts.map Tm.av).length:Nat)),(21,sI i)],(SU p bd a)⟩
abbrev Az (p:ByteArray) (bd:List Li) (a:List Ar):St:=⟨[BV,ID],(SU p bd a)⟩
attribute [local simp] Ay Tm.av Ar.av in
theorem S9 (hsm:ts.length<100000000) (a:List Ar) (i:Nat) (hi:i<ts.length) (hI:a.length≤i):En 34 (O Tryz.f114 0) (tE p ts bd a (i:Nat)) (fun e t=>e= .aj∧∃y,ts[i]? =some y∧t=tE p ts bd (Ay a y) ((i+1:Nat):Int)):=au Tryz.f114 2000
theorem SZ (a:List Ar):En 34 (O Tryz.f114 0) (tE p ts bd a (ts.length:Nat)) (fun e t=>e= .ar 0∧t=Az p bd a):=au Tryz.f114 2000
theorem S7 (hsm:ts.length<100000000):Lo 34 (O Tryz.f114 0) (tE p ts bd [] 0) (.ar 0) (Az p bd (ts.map fun y=>⟨0,y⟩)):=by
 have h:=(be (l:=ts) (fun i a=>tE p ts bd a (i:Nat)) (fun a=>Az p bd a) Ay (fun i a=>a.length≤i) (fun i a hi hI=>S9 p ts bd hsm a i hi hI) (fun i a y hy hI=>by simp [Ay];omega) (fun a hI=>SZ p ts bd a) [] (by simp)).1
 rw [vg] at h
 exact h
theorem SX (hne:bd≠[]) (h2:bd.length<100000000) (ht:List.take bd.length (bd.map Li.av)=bd.map Li.av) (M:List Ar) (l114_0q:Lo 34 (O Tryz.f114 0) (tE p ts bd [] 0) (.ar 0) (Az p bd M)):En 34 (ai Tryz.f114) ⟨[(0,.al [.J p,sT ts]),(1,.aO 100000 bd.length)],[(100000,.ao 16 (bd.map Li.av))]⟩ (fun e t=>e= .aR∧t=⟨[BV],[(100000,.ao 16 (bd.map Li.av)),(2004,.an [.J p,sA M,sL bd])]⟩):=au Tryz.f114 2000
abbrev Y4 (a:List Ar):Nat×Ob:=(2005,.an [.J p,.aO 1000 a.length,.aw 2012 0 es.length])
abbrev Nu:Nat×Ob:=(100000,.aw 16 es)
abbrev SV (a:List Ar):List (Nat×Ob):=[ST,Y4 p es a,(2012,.aw 16 es),(1000,.ao 5 (a.map Ar.av)),Nu es]
abbrev tJ (p:ByteArray) (ts:List Tm) (es:List AV) (a:List Ar) (i:Int):St:=⟨[BV,ID,(19,sT ts),(20,sI ((ts.map Tm.av).length:Nat)),(21,sI i)],(SV p es a)⟩
abbrev AA (p:ByteArray) (es:List AV) (a:List Ar):St:=⟨[BV,ID],(SV p es a)⟩
attribute [local simp] Ay Tm.av Ar.av in
theorem Ta (hno:aa es=true) (hsm:ts.length<100000000) (a:List Ar) (i:Nat) (hi:i<ts.length) (hI:a.length≤i):En 34 (O Tryz.f114 0) (tJ p ts es a (i:Nat)) (fun e t=>e= .aj∧∃y,ts[i]? =some y∧t=tJ p ts es (Ay a y) ((i+1:Nat):Int)):=au Tryz.f114 2000
theorem S3 (hno:aa es=true) (a:List Ar):En 34 (O Tryz.f114 0) (tJ p ts es a (ts.length:Nat)) (fun e t=>e= .ar 0∧t=AA p es a):=au Tryz.f114 2000
theorem S8 (hno:aa es=true) (hsm:ts.length<100000000):Lo 34 (O Tryz.f114 0) (tJ p ts es [] 0) (.ar 0) (AA p es (ts.map fun y=>⟨0,y⟩)):=by
 have h:=(be (l:=ts) (fun i a=>tJ p ts es a (i:Nat)) (fun a=>AA p es a) Ay (fun i a=>a.length≤i) (fun i a hi hI=>Ta p ts es hno hsm a i hi hI) (fun i a y hy hI=>by simp [Ay];omega) (fun a hI=>S3 p ts es hno a) [] (by simp)).1
 rw [vg] at h
 exact h
theorem SY (hne:es≠[]) (hok:∀e,e∈es→c8 16 e) (hno:aa es=true) (h2:es.length<100000000) (ht:List.take es.length es=es) (M:List Ar) (l114_0q:Lo 34 (O Tryz.f114 0) (tJ p ts es [] 0) (.ar 0) (AA p es M)):En 34 (ai Tryz.f114) ⟨[(0,.al [.J p,sT ts]),(1,.aw 100000 0 es.length)],[Nu es]⟩ (fun e t=>e= .aR∧t=⟨[BV],[Nu es,(2004,.an [.J p,sA M,.aF es false])]⟩):=au Tryz.f114 2000
abbrev xm (qs:ByteArray) (lv:List Tm):AV:= .al [sJ 1,.J qs,sT lv,sJ 0,sJ 0,.J ⟨#[]⟩,sJ 0,sI 0,.J ⟨#[]⟩,.ab,sJ 0,.J ⟨#[]⟩,sJ 0,sI 0,.J ⟨#[]⟩,.ab]
abbrev J9 (p:ByteArray) (ts:List Tm) (es:List AV):List AV:=[.J p,sA (ts.map fun y=>(⟨0,y⟩:Ar)),.aF es false]
theorem S5 (hne:bd≠[]) (h1:ts.length<100000000) (h2:bd.length<100000000):Sp 114 [.al [.J p,sT ts],.aO 1009 bd.length] [(1009,.ao 16 (bd.map Li.av))] (eh p ts bd).av [(45004,.an (J9 p ts (bd.map Li.av)))]:=by
 have hm:∀ρ,bW ρ (bd.map Li.av)=bd.map Li.av:=fun ρ=>aM _ _ (by simp)
 obtain ⟨_,_,⟨rfl,rfl⟩,h⟩:=SX p ts bd hne h2 (by rw [<-List.length_map (f:=Li.av)];exact List.take_length) _ (S7 p ts bd h1)
 have h1:Sp 114 [.al [.J p,sT ts],.aO 100000 bd.length] [(100000,.ao 16 (bd.map Li.av))] (eh p ts bd).av [(100000,.ao 16 (bd.map Li.av)),(2004,.an (J9 p ts (bd.map Li.av)))]:=sG Tryz.f114 (fun id o hx=>by simp only [List.mem_singleton,Prod.mk.injEq] at hx;obtain ⟨rfl,rfl⟩:=hx;simp only [bg,hm]) h (.inr rfl)
 have h2:=h1.gK [(100000,1009,.ao 16 (bd.map Li.av))] [(100000,1009),(2004,45004)] (args':=[.al [.J p,sT ts],.aO 1009 bd.length]) rfl (by simp only [List.map_cons,List.map_nil,bg,hm]) (by kernel_rfl)
 simp only [List.map_cons,List.map_nil,bg,hm] at h2
 exact bK.xf (L:=[(1009,.ao 16 (bd.map Li.av))]) h2 (fun _ h=>h)
theorem IF {cs ds:List AV} (h:uF cs ds):Wk (.aF [.al cs] false) (.aF [.al ds] false):=by
 refine .aF _ _ false rfl (fun i e f h1 h2=> ?_) (fun i e f j x y h1 h2 h3 h4=> ?_)
 ·cases i with
  |zero=>simp only [List.getElem?_cons_zero,Option.some.injEq] at h1 h2;subst h1;subst h2;exact h.kx.1
  |succ i=>simp at h1
 ·cases i with
  |zero=>simp only [List.getElem?_cons_zero,Option.some.injEq] at h1 h2;subst h1;subst h2;exact h.kx.2 j x y h3 h4
  |succ i=>simp at h1
theorem Tb (qs:ByteArray) (lv:List Tm):Wk (.al (J9 p ts [xm qs lv])) (eh p ts [eR qs lv]).av:=uF.al (.bz (.bb _) (.bz (.bb _) (.bz (IF (jj qs lv)) .iV)))
theorem S6 (qs:ByteArray) (lv:List Tm) (h1:ts.length<100000000):Sp 114 [.al [.J p,sT ts],.aw 44097 0 1] [(44097,.aw 16 [xm qs lv])] (eh p ts [eR qs lv]).av [(45005,.an (J9 p ts [xm qs lv]))]:=by
 have hm:∀ρ,bW ρ [xm qs lv]=[xm qs lv]:=fun ρ=>rfl
 obtain ⟨_,_,⟨rfl,rfl⟩,h⟩:=SY p ts [xm qs lv] (by simp) (by intro e he;simp only [List.mem_singleton] at he;subst he;exact ⟨rfl,by simp [AV.ac,cj]⟩) rfl (by simp) rfl _ (S8 p ts _ rfl h1)
 have h1:Sp 114 [.al [.J p,sT ts],.aw 100000 0 1] [(100000,.aw 16 [xm qs lv])] (.al (J9 p ts [xm qs lv])) [(100000,.aw 16 [xm qs lv]),(2004,.an (J9 p ts [xm qs lv]))]:=sG Tryz.f114 (fun id o hx=>by simp only [List.mem_singleton,Prod.mk.injEq] at hx;obtain ⟨rfl,rfl⟩:=hx;rfl) h (.inr rfl)
 have h2:=h1.gK [(100000,44097,.aw 16 [xm qs lv])] [(100000,44097),(2004,45005)] (args':=[.al [.J p,sT ts],.aw 44097 0 1]) rfl rfl (by kernel_rfl)
 exact (bK.xf (L:=[(44097,.aw 16 [xm qs lv])]) h2 (fun _ h=>h)).vS (Tb p ts qs lv)
end
section
abbrev Nv:Nat×Ob:=(100000,.an [.aI 100001,.bZ 62 [] [.aA 100005 0 0]])
abbrev Y5 (x:Ru) (o:Nat) (NS AS:List AV) (out:List Ru) (part ah:List Li) (k i:Nat) (y:Li) (mg:ByteArray) (lv lb:List Tm):St:=⟨[(0,.aA 100000 0 0),(2,sI o),(4,.aA 44004 0 0),(6,.aA 44006 0 0),(9,.aw 1009 0 2),(10,.aO 1010 (ah++[y]).length),(11,sI ((k+1:Nat):Int)),(45,sL x.bd),(46,sI ((x.bd.map Li.av).length:Nat)),(47,sI ((i+1:Nat):Int))],[Nv,(100001,.aI NS AS),(100005,.an [.aX 3 ((out++[(eh (qS o k) lv part)]++[(eh mg lb [(eR (qS o k) lv)])]).map Ru.av)]),(44004,.an [.J x.p,sA x.hd,sL x.bd]),(44006,.an [.J x.p,sT (x.hd.map Ar.t)]),(1009,.aw 16 [xm (qS o k) lv,y.av]),(1010,.ao 16 ((ah++[y]).map Li.av))]⟩
abbrev Nw (out:List Ru):Nat×Ob:=(100005,.an [.aX 3 (out.map Ru.av)])
abbrev cP (NS AS:List AV) (out:List Ru):List (Nat×Ob):=[Nv,(100001,.aI NS AS),Nw out]
set_option maxRecDepth 20000 in
set_option maxHeartbeats 1600000 in
theorem Y7 (x:Ru) (o:Nat) (NS AS:List AV) (out:List Ru) (part ah:List Li) (k i:Nat) (y:Li) (q1 q2 mg:ByteArray) (lv lb:List Tm) (hn:aa NS=true∧aa AS=true) (hi:i<x.bd.length) (hsm:x.bd.length≤1000) (hpl:part.length≤2000) (hah:ah.length≤2000) (ho:o<1000000000) (hkk:k<1000000000) (hz1:(ByteArray.mk (Lib.itoa (o:Nat)).toArray).size<1000) (hz2:(ByteArray.mk (Lib.itoa (k:Nat)).toArray).size<1000) (hx:0≤(i:Int)∧(x.bd.map Li.av)[Int.toNat (i:Int)]? =some y.av) (hf:∃j,bs true (.J y.p) NS 0=some (some j)∧AS[j]? =some (.al [.J q1,.J q2])) (hk:decide (y.k=1)=true)
 (k86x:Sp 86 [sI o] [] (.J ⟨(Lib.itoa (o:Nat)).toArray⟩) []) (k86p:Sp 86 [sI k] [] (.J ⟨(Lib.itoa (k:Nat)).toArray⟩) [])
 (k113x:Sp 113 [.aO 1010 ah.length,.aF (List.drop (Int.toNat (i:Int)) (x.bd.map Li.av)) false,sA x.hd] [(1010,.ao 16 (ah.map Li.av))] (sT lv) [])
 (SM:Sp 114 [.al [.J (qS o k),sT lv],.aO 1009 part.length] [(1009,.ao 16 (part.map Li.av))] (eh (qS o k) lv part).av [(45004,.an (J9 (qS o k) lv (part.map Li.av)))])
 (Ns:Sp 62 [(eh (qS o k) lv part).av,.aA 100005 0 0] [Nw out] (.bC []) [(100005,.an [.aX 3 ((out++[(eh (qS o k) lv part)]).map Ru.av)])])
 (SR:Sp 64 [.aA 100000 0 0,.J y.p,sT y.ts] (cP NS AS (out++[eh (qS o k) lv part])) (eR mg lb).av [(42006,.an [sJ 1,.J mg,sT lb,sJ 0,sJ 0,.J ⟨#[]⟩,sJ 0,sI 0,.J ⟨#[]⟩,.ab,sJ 0,.J ⟨#[]⟩,sJ 0,sI 0,.J ⟨#[]⟩,.ab])])
 (k114p:Sp 114 [.al [.J mg,sT lb],.aw 44097 0 1] [(44097,.aw 16 [xm (qS o k) lv])] (eh mg lb [(eR (qS o k) lv)]).av [(45005,.an (J9 mg lb [xm (qS o k) lv]))])
 (k62p:Sp 62 [(eh mg lb [(eR (qS o k) lv)]).av,.aA 100005 0 0] [(100005,.an [.aX 3 ((out++[(eh (qS o k) lv part)]).map Ru.av)])] (.bC []) [(100005,.an [.aX 3 ((out++[(eh (qS o k) lv part)]++[(eh mg lb [(eR (qS o k) lv)])]).map Ru.av)])]):
 En 131 (O Tryz.f63 1) (E9 x o NS AS out part ah k i) (fun e t=>e= .aj∧t=Y5 x o NS AS out part ah k i y mg lv lb):=au Tryz.f63 44000
theorem xg:∀l:List AV,uF l l
 |[]=> .iV
 |x::r=> .bz (.bb x) (xg r)
theorem Nx {n:Nat} (x:Ru) (o:Nat) (NS AS:List AV) (out:List Ru) (part ah:List Li) (k i:Nat) (y:Li) (mg:ByteArray) (lv lb:List Tm):Le n (Y5 x o NS AS out part ah k i y mg lv lb) (E9 x o NS AS (out++[eh (qS o k) lv part]++[eh mg lb [eR (qS o k) lv]]) ([eR (qS o k) lv]++[y]) (ah++[y]) (k+1) ((i+1:Nat):Int)):=by
 refine (ET (st:=Y5 x o NS AS out part ah k i y mg lv lb) 1009 (sz:=16) (es:=[xm (qS o k) lv,y.av]) (ds:=[(eR (qS o k) lv).av,y.av]) rfl rfl (fun j a b h1 h2=> ?_)).ck ?_
 ·match j with
  |0=>
   simp only [List.getElem?_cons_zero,Option.some.injEq] at h1 h2;subst h1;subst h2
   exact jj _ _
  |1=>
   simp only [List.getElem?_cons_succ,List.getElem?_cons_zero,Option.some.injEq] at h1 h2;subst h1;subst h2
   exact xg _
  |j+2=>simp at h1
 ·exact ow (m:=2) 9 1009 16 [(eR (qS o k) lv).av,y.av] rfl (by simp) rfl
def tK (L:List Ad) (NS AS:List AV):Prop:=∀nm:ByteArray,((cb L nm).2=true→∃j,bs true (.J nm) NS 0=some (some j)∧AS[j]? =some (.al [.J (cb L nm).1.1,.J (cb L nm).1.2]))∧((cb L nm).2=false→bs true (.J nm) NS 0=some none)
structure tL (L:List Ad) (x:Ru):Prop extends w8 L x where
 me:(cb L x.p).2=true∧x.hd.length=(cb L x.p).1.2.size∧sr (cb L x.p).1.2
 asq:∀y,y∈x.bd→y.k=1→(cb L y.p).2=true→y.ts.length=(cb L y.p).1.2.size∧sr (cb L y.p).1.2
abbrev Y6 (x:Ru) (NS AS:List AV) (out:List Ru) (part:List Li):St:=⟨[(0,.aA 100000 0 0),(6,.aA 44006 0 0),(9,sL part)],[Nv,(100001,.aI NS AS),Nw out,(44006,.an [.J x.p,sT (x.hd.map Ar.t)])]⟩
theorem Ny (L:List Ad) (x:Ru) (o:Nat) (NS AS:List AV) (out:List Ru) (hn:aa NS=true∧aa AS=true) (hok:tL L x) (ho:o<1000000000) (hnm:tK L NS AS) (hout:out.length<100000000000) (m:Li) (hm:m.af.length<100000):
  Lo 131 (O Tryz.f63 1) (E9 x o NS AS out [m] [m] 0 0) (.ar 2) (Y6 x NS AS (out++(x.bd.foldl (fm L x o m) (0,[m],[],0)).2.2.1) (x.bd.foldl (fm L x o m) (0,[m],[],0)).2.1)∧(x.bd.foldl (fm L x o m) (0,[m],[],0)).2.2.1.length≤2*x.bd.length∧(x.bd.foldl (fm L x o m) (0,[m],[],0)).2.1.length≤x.bd.length+1∧(x.bd.foldl (fm L x o m) (0,[m],[],0)).2.1≠[]:=by
 have hfew:=hok.tv
 have h:=be (P:=Tryz.prog) (n:=131) (c:=O Tryz.f63 1) (k:=2) (l:=x.bd) (fun i a=>E9 x o NS AS (out++a.2.2.1) a.2.1 (m::x.bd.take a.1) a.2.2.2 (i:Nat)) (fun a=>Y6 x NS AS (out++a.2.2.1) a.2.1) (fm L x o m) (fun n a=>a.1=n∧a.2.1.length≤n+1∧a.2.1≠[]∧a.2.2.1.length≤2*n∧a.2.2.2≤n) (fun n a hn1 hI=>by
  obtain ⟨e1,e2,e3,e4,e5⟩:=hI
  subst e1
  obtain ⟨y,h1⟩:∃y,x.bd[a.1]? =some y:=⟨_,List.getElem?_eq_getElem hn1⟩
  have hx:=jC h1
  have hy:=List.mem_of_getElem? h1
  have ht:x.bd.take (a.1+1)=x.bd.take a.1++[y]:=by rw [List.take_add_one,h1];rfl
  have hah:(m::x.bd.take a.1).length≤2000:=by simp;omega
  by_cases hb:(cb L y.p).2=true
  ·have hf:=(hnm y.p).1 hb
   by_cases hk:y.k=1
   ·have hq:=nz hok.sm y.p
    have hlv:=w6 x.hd x.bd m a.1
    have htm:=hok.tms
    have hhd:=hok.hd
    have hcol:=hok.asq _ hy hk hb
    have hbl:=oJ (cb L y.p).1.2 y.ts
    have hty:=hok.ts _ hy
    have hdr:(az (x.bd.drop a.1)).length≤(az x.bd).length:=by
     have:az x.bd=az (x.bd.take a.1)++az (x.bd.drop a.1):=by rw [az,az,az,←List.flatMap_append,List.take_append_drop]
     rw [this,List.length_append];omega
    have htk:(az (m::x.bd.take a.1)).length≤m.af.length+(az x.bd).length:=by
     have:az x.bd=az (x.bd.take a.1)++az (x.bd.drop a.1):=by rw [az,az,az,←List.flatMap_append,List.take_append_drop]
     rw [this,List.length_append];simp only [az,List.flatMap_cons,List.length_append];omega
    have k113:=S4 (m::x.bd.take a.1) (x.bd.drop a.1) x.hd (by omega) (by omega) (by omega) (by simp;omega)
    obtain ⟨e,t,⟨rfl,rfl⟩,r⟩:=Y7 x o NS AS (out++a.2.2.1) a.2.1 (m::x.bd.take a.1) a.2.2.2 a.1 y _ _ (bF (cb L y.p).1.1 (cb L y.p).1.2) (iu x.hd x.bd m a.1) (eJ (cb L y.p).1.2 y.ts) hn hn1 (by omega) (by omega) hah ho (by omega) (lc ho) (lc (by omega)) hx hf (decide_eq_true hk) (kU _ (by omega) (by omega)) (kU _ (by omega) (by omega)) (by rw [Int.toNat_natCast,←List.map_drop];exact k113)
     (S5 _ _ _ e3 (by omega) (by omega)) (Ns _ _ (by simp;omega)) (SR _ _ y.ts NS AS _ y.p hn hq.1 hq.2 hcol.2 hcol.1 hf) (S6 _ _ _ _ (by omega)) (Ns _ _ (by simp;omega))
    refine ⟨_,_,⟨rfl,y,h1,?_⟩,r.gV (Nx _ _ _ _ _ _ _ _ _ _ _ _ _)⟩
    rw [fm,if_pos ⟨hk,hb⟩]
    simp only [ht,List.append_assoc,List.cons_append]
   ·obtain ⟨e,t,⟨rfl,rfl⟩,r⟩:=YZ x o NS AS (out++a.2.2.1) a.2.1 (m::x.bd.take a.1) a.2.2.2 a.1 y _ _ hn hn1 (by omega) (by omega) hah hx hf (decide_eq_false hk)
    refine ⟨_,_,⟨rfl,y,h1,?_⟩,r⟩
    rw [fm,if_neg (fun h=>hk h.1)]
    simp only [ht,List.cons_append]
  ·have hb:(cb L y.p).2=false:=by simpa using hb
   obtain ⟨e,t,⟨rfl,rfl⟩,r⟩:=Y0 x o NS AS (out++a.2.2.1) a.2.1 (m::x.bd.take a.1) a.2.2.2 a.1 y hn hn1 (by omega) (by omega) hah hx ((hnm y.p).2 hb)
   refine ⟨_,_,⟨rfl,y,h1,?_⟩,r⟩
   rw [fm,if_neg (fun h=>by rw [hb] at h;cases h.2)]
   simp only [ht,List.cons_append]) (fun n a y hy hI=>by
  obtain ⟨e1,e2,e3,e4,e5⟩:=hI
  unfold fm
  split
  ·exact ⟨by simp only;omega,by simp,by simp,by simp;omega,by simp only;omega⟩
  ·exact ⟨by simp only;omega,by simp;omega,by simp,by simp only;omega,by simp only;omega⟩) (fun a hI=>by
  obtain ⟨e1,_⟩:=hI
  exact e63 x o NS AS (out++a.2.2.1) a.2.1 (m::x.bd.take a.1) a.2.2.2 hn) (0,[m],[],0) ⟨rfl,by simp,by simp,by simp,by simp⟩
 simp only [List.append_nil,List.take_zero] at h
 exact ⟨h.1,h.2.2.2.2.1,h.2.2.1,h.2.2.2.1⟩
end
section
variable (x:Ru) (o:Nat) (NS AS:List AV) (out:List Ru)
abbrev EU:Nat×AV:=(0,.aA 100000 0 0)
abbrev IG:Nat×AV:=(4,.aA 44004 0 0)
abbrev IH:Nat×AV:=(6,.aA 44006 0 0)
abbrev II:Nat×Ob:=(100000,.an [.aI 100001,.bZ 62 [] [.aA 100005 0 0]])
abbrev IJ:Nat×Ob:=(100005,.an [.aX 3 (out.map Ru.av)])
theorem Nz (hn:aa NS=true∧aa AS=true) (hsm:x.hd.length<100000000):Lo 131 (O Tryz.f63 0) ⟨[EU,(2,sI o),IG,IH,(21,sA x.hd),(22,sI ((x.hd.map Ar.av).length:Nat)),(23,sI 0)],[II,(100001,.aI NS AS),IJ out,(44004,.an [.J x.p,sA x.hd,sL x.bd]),(44006,.an [.J x.p,.ab])]⟩ (.ar 0) ⟨[EU,(2,sI o),IG,IH],[II,(100001,.aI NS AS),IJ out,(44004,.an [.J x.p,sA x.hd,sL x.bd]),(44006,.an [.J x.p,sT (x.hd.map Ar.t)])]⟩:=by
 have h:=Nt x o NS AS out hn hsm
 rw [IB] at h
 exact h.gV Ot
set_option maxRecDepth 20000 in
set_option maxHeartbeats 1600000 in
theorem b63 (out':List Ru) (part:List Li) (m:Li) (z6:List AV) (hn:aa NS=true∧aa AS=true) (hne:part≠[])
 (l63_0q:Lo 131 (O Tryz.f63 0) ⟨[EU,(2,sI o),IG,IH,(21,sA x.hd),(22,sI ((x.hd.map Ar.av).length:Nat)),(23,sI 0)],[II,(100001,.aI NS AS),IJ out,(44004,.an [.J x.p,sA x.hd,sL x.bd]),(44006,.an [.J x.p,.ab])]⟩ (.ar 0) ⟨[EU,(2,sI o),IG,IH],[II,(100001,.aI NS AS),IJ out,(44004,.an [.J x.p,sA x.hd,sL x.bd]),(44006,.an [.J x.p,sT (x.hd.map Ar.t)])]⟩)
 (SR:Sp 64 [.aA 100000 0 0,.J x.p,sT (x.hd.map Ar.t)] (cP NS AS out) m.av [(42006,.an z6)])
 (k82x:Sp 82 [.aw 44041 0 1] [(44041,.aw 16 [m.av])] (.aw 45007 0 1) [(45007,.aw 16 [m.av])])
 (l63_1q:Lo 131 (O Tryz.f63 1) (E9 x o NS AS out [m] [m] 0 0) (.ar 2) (Y6 x NS AS out' part))
 (SM:Sp 114 [.al [.J x.p,sT (x.hd.map Ar.t)],sL part] [] (eh x.p (x.hd.map Ar.t) part).av [])
 (Ns:Sp 62 [(eh x.p (x.hd.map Ar.t) part).av,.aA 100005 0 0] [(100005,.an [.aX 3 (out'.map Ru.av)])] (.bC []) [(100005,.an [.aX 3 ((out'++[eh x.p (x.hd.map Ar.t) part]).map Ru.av)])]):
 EN 131 (ai Tryz.f63) ⟨[EU,(1,.al [.J x.p,sA x.hd,sL x.bd]),(2,sI o)],cP NS AS out⟩ ⟨[],cP NS AS (out'++[eh x.p (x.hd.map Ar.t) part])⟩:=au Tryz.f63 44000 false
theorem NA (hn:aa NS=true∧aa AS=true):∀id o,(id,o)∈cP NS AS out→bg (gX (cP NS AS out)) o=o:=yR NS AS out hn
theorem Y8 (L:List Ad) (x:Ru) (o:Nat) (NS AS:List AV) (out:List Ru) (hn:aa NS=true∧aa AS=true) (hok:tL L x) (ho:o<1000000000) (hnm:tK L NS AS) (hout:out.length<100000000000):
  Sp 63 [.aA 100000 0 0,x.av,sI o] (cP NS AS out) (.bC []) (cP NS AS (out++nA L x o)):=by
 have hfew:=hok.tv
 have hhd:=hok.hd
 have hq:=nz hok.sm x.p
 have hbl:=oJ (cb L x.p).1.2 (x.hd.map Ar.t)
 rw [List.length_map] at hbl
 have hm:(tC L x).af.length<100000:=by unfold tC;rw [mz];omega
 obtain ⟨l1,h2,h3,h4⟩:=Ny L x o NS AS out hn hok ho hnm hout (tC L x) hm
 obtain ⟨_,_,⟨rfl,rfl⟩,r⟩:=b63 x o NS AS out _ _ (tC L x) _ hn h4 (Nz x o NS AS out hn (by omega)) (SR _ _ (x.hd.map Ar.t) NS AS out x.p hn hq.1 hq.2 hok.me.2.2 (by simpa using hok.me.2.1) ((hnm x.p).1 hok.me.1)) (Y2 (tC L x)) l1 (SM x.p (x.hd.map Ar.t) _ h4 (by simp;omega) (by omega)) (Ns _ _ (by simp;omega))
 have k:=bK.vR (fn:=Tryz.f63) (c:=ai Tryz.f63) (f:=63) (args:=[.aA 100000 0 0,x.av,sI o]) (r:= .bC []) (by kernel_rfl) (by kernel_rfl) rfl rfl rfl (NA NS AS out hn) r (.inl rfl) (by kernel_rfl)
 rw [List.append_assoc] at k
 exact k
theorem Y9 (q1 q2:ByteArray) (ts:List Tm) (NS AS:List AV) (out:List Ru) (nm:ByteArray) (hn:aa NS=true∧aa AS=true) (h1:q1.size<1000) (h2:q2.size<1000) (hs:sr q2) (hl:ts.length=q2.size) (hf:∃j,bs true (.J nm) NS 0=some (some j)∧AS[j]? =some (.al [.J q1,.J q2])):
  Sp 64 [.aA 100000 0 0,.J nm,sT ts] (cP NS AS out) (eR (bF q1 q2) (eJ q2 ts)).av (cP NS AS out++[(42006,.an [sJ 1,.J (bF q1 q2),sT (eJ q2 ts),sJ 0,sJ 0,.J ⟨#[]⟩,sJ 0,sI 0,.J ⟨#[]⟩,.ab,sJ 0,.J ⟨#[]⟩,sJ 0,sI 0,.J ⟨#[]⟩,.ab])]):=by
 obtain ⟨_,_,⟨rfl,rfl⟩,h⟩:=b64 q1 q2 ts NS AS out nm (eJ q2 ts) hn h1 h2 hf (ER q1 q2 ts NS AS out hn hs hl (by omega))
 exact bK.vS (sG Tryz.f64 (yR NS AS out hn) h (.inr rfl)) (jj _ _).al
end
section
variable (nm:ByteArray) (ts:List Tm) (Gs:List Ru) (mg:ByteArray) (vs:List Tm) (L:List Ad) (NS AS:List AV) (out:List Ru) (i:Nat)
abbrev rM (a:Ad):AV:= .J (aH a.1 a.2)
@[simp] theorem N1 (l:List Ad):aa (l.map rM)=true:=bI rM (fun _=>rfl) l
abbrev yS:Nat×Ob:=(46037,.an [.aI 46034,.bZ 62 [] [.aA 46009 0 0]])
abbrev EW:Nat×Ob:=(46034,.aI (NS) (AS))
abbrev NB:Nat×Ob:=(46009,.an [.aX 3 (out.map Ru.av)])
abbrev dP (NS AS:List AV) (out:List Ru):List (Nat×Ob):=[yS,EW NS AS,NB out]
theorem Zd (x:Ru) (o:Nat) (NS AS:List AV) (out:List Ru) (hn:aa NS=true∧aa AS=true) (hok:tL L x) (ho:o<1000000000) (hnm:tK L NS AS) (hout:out.length<100000000000):
  Sp 63 [.aA 46037 0 0,x.av,sI o] (dP NS AS out) (.bC []) (dP NS AS (out++nA L x o)):=by
 have h1:∀ρ,bW ρ NS=NS:=fun ρ=>aM _ _ hn.1
 have h2:∀ρ,bW ρ AS=AS:=fun ρ=>aM _ _ hn.2
 have h:=(Y8 L x o NS AS out hn hok ho hnm hout).gK [(100000,46037,.an [.aI 46034,.bZ 62 [] [.aA 46009 0 0]]),(100001,46034,.aI NS AS),(100005,46009,.an [.aX 3 (out.map Ru.av)])] [(100000,46037),(100001,46034),(100005,46009)] (args':=[.aA 46037 0 0,x.av,sI o]) rfl (by simp only [List.map_cons,List.map_nil,bg,h1,h2];rfl) (by kernel_rfl)
 simp only [List.map_cons,List.map_nil,bg,h1,h2] at h
 exact h
theorem Ze (q1 q2:ByteArray) (us:List Tm) (NS AS:List AV) (out:List Ru) (nm:ByteArray) (hn:aa NS=true∧aa AS=true) (h1:q1.size<1000) (h2:q2.size<1000) (hs:sr q2) (hl:us.length=q2.size) (hf:∃j,bs true (.J nm) NS 0=some (some j)∧AS[j]? =some (.al [.J q1,.J q2])):
  Sp 64 [.aA 46037 0 0,.J nm,sT us] (dP NS AS out) (eR (bF q1 q2) (eJ q2 us)).av [(42006,.an [sJ 1,.J (bF q1 q2),sT (eJ q2 us),sJ 0,sJ 0,.J ⟨#[]⟩,sJ 0,sI 0,.J ⟨#[]⟩,.ab,sJ 0,.J ⟨#[]⟩,sJ 0,sI 0,.J ⟨#[]⟩,.ab])]:=by
 have e1:∀ρ,bW ρ NS=NS:=fun ρ=>aM _ _ hn.1
 have e2:∀ρ,bW ρ AS=AS:=fun ρ=>aM _ _ hn.2
 have h:Sp 64 [.aA 100000 0 0,.J nm,sT us] (cP NS AS out) _ (cP NS AS out++_):=Y9 q1 q2 us NS AS out nm hn h1 h2 hs hl hf
 have h:=h.gK [(100000,46037,.an [.aI 46034,.bZ 62 [] [.aA 46009 0 0]]),(100001,46034,.aI NS AS),(100005,46009,.an [.aX 3 (out.map Ru.av)])] [(100000,46037),(100001,46034),(100005,46009),(42006,42006)] (args':=[.aA 46037 0 0,.J nm,sT us]) rfl (by simp only [List.map_cons,List.map_nil,bg,e1,e2];rfl) (by kernel_rfl)
 simp only [List.map_cons,List.map_nil,List.cons_append,List.nil_append,bg,e1,e2] at h
 exact bK.xf (L:=dP NS AS out) h (fun _ h=>h)
abbrev vh:Nat×AV:=(4,.aA 46004 0 0)
abbrev xh:Nat×AV:=(6,.aA 46006 0 0)
abbrev xi:Nat×AV:=(9,.aA 46009 0 0)
abbrev BW:Nat×AV:=(10,.aA 46037 0 0)
abbrev vj:Nat×Ob:=(46004,.an [.ab,.J ⟨#[]⟩,.ab,.ab])
abbrev Tc:Nat×Ob:=(46009,.an [.aX 3 (([]:List Ru).map Ru.av)])
abbrev BX (nm:ByteArray) (ts:List Tm) (Gs:List Ru) (L a:List Ad) (i:Int):St:=⟨[vh,xh,xi,BW,(38,.aF (L.map bE) false),(39,sI ((L.map bE).length:Nat)),(40,sI i)],[vj,(46006,.an [sR Gs,.J nm,sT ts,.ab]),Tc,(46034,.aI (a.map rM) (a.map bE)),yS]⟩
abbrev IK (nm:ByteArray) (ts:List Tm) (Gs:List Ru) (a:List Ad):St:=⟨[vh,xh,xi,BW],[vj,(46006,.an [sR Gs,.J nm,sT ts,.ab]),Tc,(46034,.aI (a.map rM) (a.map bE)),yS]⟩
theorem Zf (a:List Ad) (i:Nat) (y:Ad) (hi:i<L.length) (hL:L.length≤1000) (hx:0≤(i:Int)∧(L.map bE)[Int.toNat (i:Int)]? =some (bE y)) (k14x:Sp 14 [.al [.J y.1,.J y.2]] [] (.J (aH y.1 y.2)) []) (hf:bs true (.J (aH y.1 y.2)) (a.map rM) 0=some none):En 127 (O Tryz.f31 0) (BX nm ts Gs L a i) (fun e t=>e= .aj∧t=BX nm ts Gs L (a++[y]) ((i+1:Nat):Int)):=au Tryz.f31 46000
theorem Y' (a:List Ad):En 127 (O Tryz.f31 0) (BX nm ts Gs L a (L.length:Nat)) (fun e t=>e= .ar 0∧t=IK nm ts Gs a):=au Tryz.f31 46000
abbrev BY (nm:ByteArray) (ts:List Tm) (Gs:List Ru) (NS AS:List AV) (a:List Ru) (i:Int):St:=⟨[vh,xh,xi,BW,(53,sR Gs),(54,sI ((Gs.map Ru.av).length:Nat)),(55,sI i)],[vj,(46006,.an [sR Gs,.J nm,sT ts,.ab]),(46009,.an [.aX 3 (a.map Ru.av)]),EW NS AS,yS]⟩
abbrev IL (nm:ByteArray) (ts:List Tm) (Gs:List Ru) (NS AS:List AV) (a:List Ru):St:=⟨[vh,xh,xi,BW],[vj,(46006,.an [sR Gs,.J nm,sT ts,.ab]),(46009,.an [.aX 3 (a.map Ru.av)]),EW NS AS,yS]⟩
theorem Zg (hn:aa NS=true∧aa AS=true) (a Q:List Ru) (i:Nat) (y:Ru) (hi:i<Gs.length) (hG:Gs.length<1000000000) (hx:0≤(i:Int)∧(Gs.map Ru.av)[Int.toNat (i:Int)]? =some y.av) (k63:Sp 63 [.aA 46037 0 0,y.av,sI i] (dP NS AS a) (.bC []) (dP NS AS (a++Q))):En 127 (O Tryz.f31 1) (BY nm ts Gs NS AS a i) (fun e t=>e= .aj∧t=BY nm ts Gs NS AS (a++Q) ((i+1:Nat):Int)):=au Tryz.f31 46000
theorem Za (hn:aa NS=true∧aa AS=true) (a:List Ru):En 127 (O Tryz.f31 1) (BY nm ts Gs NS AS a (Gs.length:Nat)) (fun e t=>e= .ar 2∧t=IL nm ts Gs NS AS a):=au Tryz.f31 46000
abbrev IP:Nat×AV:=(15,.aA 46015 0 0)
abbrev BZ (nm:ByteArray) (ts:List Tm) (Gs:List Ru) (NS AS:List AV) (out:List Ru) (lb a:List Tm) (i:Int):St:=⟨[vh,xh,xi,BW,IP,(75,sT lb),(76,sI ((lb.map Tm.av).length:Nat)),(77,sI i)],[vj,(46006,.an [sR Gs,.J nm,sT ts,.ab]),NB out,EW NS AS,yS,(46015,.an [.J ⟨#[]⟩,.aO 1000 a.length]),(1000,.ao 3 (a.map fc))]⟩
abbrev IM (nm:ByteArray) (ts:List Tm) (Gs:List Ru) (NS AS:List AV) (out:List Ru) (a:List Tm):St:=⟨[vh,xh,xi,BW,IP],[vj,(46006,.an [sR Gs,.J nm,sT ts,.ab]),NB out,EW NS AS,yS,(46015,.an [.J ⟨#[]⟩,.aF (a.map fc) false])]⟩
attribute [local simp] fc in
theorem Zh (hn:aa NS=true∧aa AS=true) (out:List Ru) (lb a:List Tm) (i:Nat) (hi:i<lb.length) (hl:lb.length≤100000) (hI:a.length≤i):En 127 (O Tryz.f31 2) (BZ nm ts Gs NS AS out lb a i) (fun e t=>e= .aj∧∃y,lb[i]? =some y∧t=BZ nm ts Gs NS AS out lb (a++[y]) ((i+1:Nat):Int)):=au Tryz.f31 46000
theorem Zb (hn:aa NS=true∧aa AS=true) (out:List Ru) (lb a:List Tm):En 127 (O Tryz.f31 2) (BZ nm ts Gs NS AS out lb a (lb.length:Nat)) (fun e t=>e= .ar 4∧t=IM nm ts Gs NS AS out a):=au Tryz.f31 46000
abbrev Td:Nat×Ob:=(46015,.an [.J mg,.aF (vs.map fc) false])
abbrev vk (nm:ByteArray) (ts:List Tm) (Gs:List Ru) (mg:ByteArray) (vs:List Tm) (out:List Ru) (i:Int):St:=⟨[vh,xh,xi,IP,(101,sI (out.length:Nat)),(102,sI i)],[vj,(46006,.an [sR Gs,.J nm,sT ts,.ab]),(46009,.an [.aw 46500 0 out.length]),Td mg vs,(46500,.aw 3 (out.map Ru.av))]⟩
abbrev IN (nm:ByteArray) (ts:List Tm) (Gs:List Ru) (mg:ByteArray) (vs:List Tm) (out:List Ru):St:=⟨[vh,xh,xi,IP],[vj,(46006,.an [sR Gs,.J nm,sT ts,.ab]),(46009,.an [.aw 46500 0 out.length]),Td mg vs,(46500,.aw 3 (out.map Ru.av))]⟩
abbrev EV:St:=⟨[vh,(5,sI 70)],[vj]⟩
theorem Zi (y:Ru) (hi:i<out.length) (ho:out.length≤100000000000) (hx:(out.map Ru.av)[0+Int.toNat (i:Int)]? =some y.av) (hs:(out.map Ru.av).set (0+Int.toNat (i:Int)) (.al [.J y.p,sA y.hd,sL y.bd])=out.map Ru.av) (YQ:Sp 65 [y.av] [] (.bC [y.av,sI 0]) []):En 127 (O Tryz.f31 3) (vk nm ts Gs mg vs out i) (fun e t=>e= .aj∧t=vk nm ts Gs mg vs out ((i+1:Nat):Int)):=au Tryz.f31 46000
theorem Te (y:Ru) (hi:i<out.length) (ho:out.length≤100000000000) (hx:(out.map Ru.av)[0+Int.toNat (i:Int)]? =some y.av) (hs:(out.map Ru.av).set (0+Int.toNat (i:Int)) (.al [.J y.p,sA y.hd,sL y.bd])=out.map Ru.av) (YQ:Sp 65 [y.av] [] (.bC [y.av,sI 70]) []):En 127 (O Tryz.f31 3) (vk nm ts Gs mg vs out i) (fun e t=>e= .aR∧t=EV):=au Tryz.f31 46000
theorem Zc:En 127 (O Tryz.f31 3) (vk nm ts Gs mg vs out (out.length:Nat)) (fun e t=>e= .ar 6∧t=IN nm ts Gs mg vs out):=au Tryz.f31 46000
end
section
variable (nm:ByteArray) (ts:List Tm) (Gs:List Ru)
theorem Zk (L:List Ad) (hL:L.length≤1000) (hz:∀a,a∈L→a.1.size<1000∧a.2.size<1000) (hd:∀(i:Nat) y,L[i]? =some y→bs true (.J (aH y.1 y.2)) ((L.take i).map rM) 0=some none):
  Lo 127 (O Tryz.f31 0) (BX nm ts Gs L [] 0) (.ar 0) (IK nm ts Gs L):=by
 have h:=(be (l:=L) (fun i a=>BX nm ts Gs L a (i:Nat)) (fun a=>IK nm ts Gs a) (fun a y=>a++[y]) (fun i a=>a=L.take i) (fun i a hi hI=>by
  obtain ⟨y,h1⟩:∃y,L[i]? =some y:=⟨_,List.getElem?_eq_getElem hi⟩
  have hy:=hz y (List.mem_of_getElem? h1)
  have hf:=hd i y h1
  rw [←hI] at hf
  obtain ⟨e,t,⟨rfl,rfl⟩,r⟩:=Zf nm ts Gs L a i y hi hL ⟨by omega,by rw [Int.toNat_natCast,List.getElem?_map,h1];rfl⟩ (k14 y.1 y.2 (by omega) (by omega)) hf
  exact ⟨_,_,⟨rfl,y,h1,rfl⟩,r⟩) (fun i a y hy hI=>by rw [hI,List.take_add_one,hy];rfl) (fun a hI=>Y' nm ts Gs L a) [] rfl).1
 rwa [show L.foldl (fun a y=>a++[y]) []=L from by simpa using nG (fun y:Ad=>y) L []] at h
theorem Tf (L:List Ad) (NS AS:List AV) (hn:aa NS=true∧aa AS=true) (hnm:tK L NS AS) (hG:Gs.length<900000000) (hok:∀r,r∈Gs→tL L r):
  Lo 127 (O Tryz.f31 1) (BY nm ts Gs NS AS [] 0) (.ar 2) (IL nm ts Gs NS AS (eZ L Gs))∧(eZ L Gs).length≤33*Gs.length:=by
 have h:=be (l:=Gs) (fun i a=>BY nm ts Gs NS AS a.2 (i:Nat)) (fun a=>IL nm ts Gs NS AS a.2) (nD L) (fun i a=>a.1=i∧a.2.length≤33*i) (fun i a hi hI=>by
  obtain ⟨y,h1⟩:∃y,Gs[i]? =some y:=⟨_,List.getElem?_eq_getElem hi⟩
  have hy:=hok y (List.mem_of_getElem? h1)
  obtain ⟨e1,e2⟩:=hI
  obtain ⟨e,t,⟨rfl,rfl⟩,r⟩:=Zg nm ts Gs NS AS hn a.2 (nA L y i) i y hi (by omega) ⟨by omega,by rw [Int.toNat_natCast,List.getElem?_map,h1];rfl⟩ (Zd L y i NS AS a.2 hn hy (by omega) hnm (by omega))
  exact ⟨_,_,⟨rfl,y,h1,by simp only [nD,e1]⟩,r⟩) (fun i a y hy hI=>by
  have h1:=rH (hok y (List.mem_of_getElem? hy)).tow8 (i:=a.1) (by have:=(List.getElem?_eq_some_iff.1 hy).1;omega)
  obtain ⟨e1,e2⟩:=hI
  exact ⟨by simp only [nD];omega,by simp only [nD,List.length_append];omega⟩) (fun a hI=>Za nm ts Gs NS AS hn a.2) (0,[]) ⟨rfl,by simp⟩
 exact ⟨h.1,h.2.2⟩
theorem Zl (NS AS:List AV) (hn:aa NS=true∧aa AS=true) (out:List Ru) (lb:List Tm) (hl:lb.length≤100000):
  Lo 127 (O Tryz.f31 2) (BZ nm ts Gs NS AS out lb [] 0) (.ar 4) (IM nm ts Gs NS AS out lb):=by
 have h:=(be (l:=lb) (fun i a=>BZ nm ts Gs NS AS out lb a (i:Nat)) (fun a=>IM nm ts Gs NS AS out a) (fun a y=>a++[y]) (fun i a=>a.length≤i) (fun i a hi hI=>Zh nm ts Gs NS AS hn out lb a i hi hl hI) (fun i a y hy hI=>by simp;omega) (fun a hI=>Zb nm ts Gs NS AS hn out lb a) [] (by simp)).1
 rwa [show lb.foldl (fun a y=>a++[y]) []=lb from by simpa using nG (fun y:Tm=>y) lb []] at h
theorem Zj (y:Ru) (hok:ch y.p y.hd y.bd=true→(y.hd.length<100000000∧y.bd.length<100000000∧∀x:Li,x∈y.bd→x.ts.length<100000000∧x.l.af.length<100000000∧x.r.af.length<100000000∧x.af.length≤9223372036854775807)):Sp 65 [y.av] [] (.bC [y.av,sI (fj 70 (ch y.p y.hd y.bd))]) []:=YQ y.p y.hd y.bd hok
theorem Zm (mg:ByteArray) (vs:List Tm) (out:List Ru) (ho:out.length≤100000000000) (hok:∀y,y∈out→ch y.p y.hd y.bd=true→(y.hd.length<100000000∧y.bd.length<100000000∧∀x:Li,x∈y.bd→x.ts.length<100000000∧x.l.af.length<100000000∧x.r.af.length<100000000∧x.af.length≤9223372036854775807)):
  (Lo 127 (O Tryz.f31 3) (vk nm ts Gs mg vs out 0) .aR EV∧∃r,r∈out∧ch r.p r.hd r.bd=false)∨(Lo 127 (O Tryz.f31 3) (vk nm ts Gs mg vs out 0) (.ar 6) (IN nm ts Gs mg vs out)∧∀r,r∈out→ch r.p r.hd r.bd=true):=by
 rcases kV (N:=out.length) (k:=6) (fun i=>vk nm ts Gs mg vs out (i:Nat)) (IN nm ts Gs mg vs out) (fun s=>s=EV∧∃r,r∈out∧ch r.p r.hd r.bd=false) (fun i=>∀y,out[i]? =some y→ch y.p y.hd y.bd=true) (fun i hi=>by
  obtain ⟨y,h1⟩:∃y,out[i]? =some y:=⟨_,List.getElem?_eq_getElem hi⟩
  have hy:=List.mem_of_getElem? h1
  have hx:(out.map Ru.av)[0+Int.toNat (i:Int)]? =some y.av:=by rw [Nat.zero_add,Int.toNat_natCast,List.getElem?_map,h1];rfl
  have k:=Zj y (hok y hy)
  cases hb:ch y.p y.hd y.bd with
  |true=>
   rw [hb] at k
   obtain ⟨e,t,⟨rfl,rfl⟩,r⟩:=Zi nm ts Gs mg vs out i y hi ho hx (fX hx) k
   exact ⟨_,_,.inr ⟨rfl,rfl,fun z hz=>by rw [h1] at hz;injection hz with hz;subst hz;exact hb⟩,r⟩
  |false=>
   rw [hb] at k
   obtain ⟨e,t,⟨rfl,rfl⟩,r⟩:=Te nm ts Gs mg vs out i y hi ho hx (fX hx) k
   exact ⟨_,_,.inl ⟨rfl,rfl,y,hy,hb⟩,r⟩) (Zc nm ts Gs mg vs out) with ⟨s,h,rfl,hr⟩|⟨h,hr⟩
 ·exact .inl ⟨h,hr⟩
 ·refine .inr ⟨h,fun r hr'=> ?_⟩
  obtain ⟨i,hi,rfl⟩:=List.getElem_of_mem hr'
  exact hr i hi _ (List.getElem?_eq_getElem hi)
end
section
variable (rules:List Ru) (p nm:ByteArray) (ts:List Tm) (Gs out:List Ru)
abbrev Zn (rules:List Ru) (p:ByteArray) (ts:List Tm):St:=⟨[(0,sR rules),(1,.al [.J p,sT ts])],[]⟩
abbrev Tg:Nat×AV:=(4,.aA 46004 0 0)
abbrev Uo (c:List AV) (e:Int):St:=⟨[Tg,(5,sI e)],[(46004,.an c)]⟩
theorem Zq (e:Int) (he:decide (e=0)=false) (k18:Sp 18 [sR rules,.al [.J p,sT ts]] [] (.bC [.al [.ab,.J ⟨#[]⟩,.ab,.ab],.ab,sI e]) []):En 127 (ai Tryz.f31) (Zn rules p ts) (fun o t=>o= .aR∧t=Uo [.ab,.J ⟨#[]⟩,.ab,.ab] e):=au Tryz.f31 46000
theorem Zr (k18:Sp 18 [sR rules,.al [.J p,sT ts]] [] (.bC [.al [.ab,.J p,sT ts,.ab],.ab,sI 0]) []):En 127 (ai Tryz.f31) (Zn rules p ts) (fun o t=>o= .aR∧t=Uo [.ab,.J p,sT ts,.ab] 0):=au Tryz.f31 46000
abbrev Th:Nat×Ob:=(46004,.an [.ab,.J ⟨#[]⟩,.ab,.ab])
abbrev Ti:List (Nat×AV):=[Tg,(6,.aA 46006 0 0),(9,.aA 46009 0 0),(15,.aA 46015 0 0)]
abbrev Zo (nm:ByteArray) (ts:List Tm) (Gs out:List Ru) (mg:ByteArray) (lb:List Tm):St:=⟨Ti,[Th,(46006,.an [sR Gs,.J nm,sT ts,.ab]),(46009,.an [.aX 3 (out.map Ru.av)]),(46015,.an [.J mg,.aF (lb.map fc) false])]⟩
theorem p31 (nm:ByteArray) (Gs out:List Ru) (L:List Ad) (hL:L≠[]) (mg:ByteArray) (lb:List Tm) (NS AS:List AV) (hn:aa NS=true∧aa AS=true)
 (k18:Sp 18 [sR rules,.al [.J p,sT ts]] [] (.bC [.al [sR Gs,.J nm,sT ts,.ab],.aF (L.map bE) false,sI 0]) [])
 (lA:Lo 127 (O Tryz.f31 0) (BX nm ts Gs L [] 0) (.ar 0) (IK nm ts Gs L))
 (lB:Lo 127 (O Tryz.f31 1) (BY nm ts Gs (L.map rM) (L.map bE) [] 0) (.ar 2) (IL nm ts Gs (L.map rM) (L.map bE) out))
 (lC:Lo 127 (O Tryz.f31 2) (BZ nm ts Gs (L.map rM) (L.map bE) out lb [] 0) (.ar 4) (IM nm ts Gs (L.map rM) (L.map bE) out lb))
 (k64:Sp 64 [.aA 46037 0 0,.J nm,sT ts] (dP (L.map rM) (L.map bE) out) (eR mg lb).av [(42006,.an [sJ 1,.J mg,sT lb,sJ 0,sJ 0,.J ⟨#[]⟩,sJ 0,sI 0,.J ⟨#[]⟩,.ab,sJ 0,.J ⟨#[]⟩,sJ 0,sI 0,.J ⟨#[]⟩,.ab])]):
 EK Tryz.prog 127 (ai Tryz.f31) (fun e s=>e= .aj∧s=Zo nm ts Gs out mg lb) (parts [] 11) .aj (Zn rules p ts):=au Tryz.f31 46000 (hr:=by exact id)
abbrev Zp (nm:ByteArray) (ts:List Tm) (Gs out:List Ru) (mg:ByteArray) (lb:List Tm):St:=⟨Ti,[Th,(46006,.an [sR Gs,.J nm,sT ts,.ab]),(46009,.an [.aw 46500 0 out.length]),(46015,.an [.J mg,.aF (lb.map fc) false]),(46500,.aw 3 (out.map Ru.av))]⟩
theorem r31 (mg:ByteArray) (lb:List Tm) (lD:Lo 127 (O Tryz.f31 3) (vk nm ts Gs mg lb out 0) (.ar 6) (IN nm ts Gs mg lb out)):En 127 (sub (ai Tryz.f31) (v8 [] 11)) (Zp nm ts Gs out mg lb) (fun e t=>e= .aR∧t=Uo [sR out,.J nm,sT ts,.aF [.al [.J mg,.aF (lb.map fc) false]] false] 0):=au Tryz.f31 46000
theorem Zs (mg:ByteArray) (lb:List Tm) (lD:Lo 127 (O Tryz.f31 3) (vk nm ts Gs mg lb out 0) .aR EV):En 127 (sub (ai Tryz.f31) (v8 [] 11)) (Zp nm ts Gs out mg lb) (fun e t=>e= .aR∧t=EV):=au Tryz.f31 46000
end
section
variable (rules:List Ru) (p:ByteArray) (ts:List Tm)
structure G31 (L:List Ad) (Gs:List Ru) (p:ByteArray) (ts:List Tm):Prop where
 tv:L.length≤1000
 ne:L≠[]
 sz:∀a,a∈L→a.1.size<1000∧a.2.size<1000
 Zt:∀(i:Nat) y,L[i]? =some y→bs true (.J (aH y.1 y.2)) ((L.take i).map rM) 0=some none
 nam:tK L (L.map rM) (L.map bE)
 NC:Gs.length<900000000
 gne:Gs≠[]
 ok:∀r,r∈Gs→tL L r
 bfq:sr (aW ts [])
 tl:ts.length≤900
 pl:p.size<1000
 has:∃j,bs true (.J (aH p (aW ts []))) (L.map rM) 0=some (some j)∧(L.map bE)[j]? =some (.al [.J p,.J (aW ts [])])
 big:∀y,y∈eZ L Gs→ch y.p y.hd y.bd=true→(y.hd.length<100000000∧y.bd.length<100000000∧∀x:Li,x∈y.bd→x.ts.length<100000000∧x.l.af.length<100000000∧x.r.af.length<100000000∧x.af.length≤9223372036854775807)
theorem IQ (L:List Ad) (x:Ru) (i:Nat):nA L x i≠[]:=by simp [nA]
theorem Tk {L:List Ad} {Gs:List Ru} (h:Gs≠[]):eZ L Gs≠[]:=by
 have go:∀(G:List Ru) (a:Nat×List Ru),a.2≠[]→(G.foldl (nD L) a).2≠[]:=by
  intro G
  induction G with
  |nil=>intro a h;exact h
  |cons r G ih=>intro a h;exact ih _ (by simp [nD,h])
 cases Gs with
 |nil=>exact absurd rfl h
 |cons r G=>exact go G _ (by simp [nD,IQ])
abbrev Zw:AV:= .al [.ab,.J ⟨#[]⟩,.ab,.ab]
theorem AB {args:List AV} {c:List AV} {e:Int} (ha:aa args=true) (hl:args.length=2) (hc:c.length=4) (hn:aa c=true) (r:Rz 127 (ai Tryz.f31) ⟨bO 0 args,[]⟩ .aR (Uo c e)):Sp 31 args [] (.bC [.al c,sI e]) []:=by
 match args,hl with
 |[x,y],_=>
  match c,hc with
  |[c1,c2,c3,c4],_=>exact bK.jb (fn:=Tryz.f31) (c:=ai Tryz.f31) (by kernel_rfl) (by kernel_rfl) ha r (.inr rfl) (by kernel_rfl) (by simpa [aJ,aa] using hn)
theorem Zu (Gs:List Ru) (L:List Ad) (g:G31 L Gs p ts)
  (k18:Sp 18 [sR rules,.al [.J p,sT ts]] [] (.bC [.al [sR Gs,.J (aH p (aW ts [])),sT ts,.ab],.aF (L.map bE) false,sI 0]) []):
  (Sp 31 [sR rules,gU p ts] [] (.bC [Zw,sI 70]) []∧∃r,r∈eZ L Gs∧ch r.p r.hd r.bd=false)∨
  (Sp 31 [sR rules,gU p ts] [] (.bC [.al [sR (eZ L Gs),.J (aH p (aW ts [])),sT ts,.aF [.al [.J (bF p (aW ts [])),.aF ((eJ (aW ts []) ts).map fc) false]] false],sI 0]) []∧∀r,r∈eZ L Gs→ch r.p r.hd r.bd=true):=by
 have hn:aa (L.map rM)=true∧aa (L.map bE)=true:=⟨by simp,by simp⟩
 have hps:(aW ts []).size=ts.length:=dq ts []
 have htl:=g.tl
 have hgl:=g.NC
 have hpl:=g.pl
 have hbl:=oJ (aW ts []) ts
 obtain ⟨lB,hlen⟩:=Tf (aH p (aW ts [])) ts Gs L (L.map rM) (L.map bE) hn g.nam g.NC g.ok
 have lA:=Zk (aH p (aW ts [])) ts Gs L g.tv g.sz g.Zt
 have lC:=Zl (aH p (aW ts [])) ts Gs (L.map rM) (L.map bE) hn (eZ L Gs) (eJ (aW ts []) ts) (by omega)
 have k64:=Ze p (aW ts []) ts (L.map rM) (L.map bE) (eZ L Gs) (aH p (aW ts [])) hn (by omega) (by omega) g.bfq hps.symm g.has
 have hp:=p31 rules p ts (aH p (aW ts [])) Gs (eZ L Gs) L g.ne (bF p (aW ts [])) (eJ (aW ts []) ts) (L.map rM) (L.map bE) hn k18 lA lB lC k64
 have hrn:(eZ L Gs).map Ru.av≠[]:=by simpa using Tk g.gne
 have hle:Le 127 (Zo (aH p (aW ts [])) ts Gs (eZ L Gs) (bF p (aW ts [])) (eJ (aW ts []) ts)) (Zp (aH p (aW ts [])) ts Gs (eZ L Gs) (bF p (aW ts [])) (eJ (aW ts []) ts)):=by
  have h:=gm (n:=127) (st:=Zo (aH p (aW ts [])) ts Gs (eZ L Gs) (bF p (aW ts [])) (eJ (aW ts []) ts)) 46009 0 46500 (sz:=3) (es:=(eZ L Gs).map Ru.av) rfl rfl hrn rfl (by simp [mid])
  rw [List.length_map] at h
  exact h
 have ha:aa [sR rules,gU p ts]=true:=by simp [aa,aJ,gU,vr]
 rcases Zm (aH p (aW ts [])) ts Gs (bF p (aW ts [])) (eJ (aW ts []) ts) (eZ L Gs) (by omega) g.big with ⟨lD,hr⟩|⟨lD,hr⟩
 ·refine .inl ⟨?_,hr⟩
  obtain ⟨_,_,⟨rfl,rfl⟩,r⟩:=FD 11 (by kernel_rfl) hle (Zs _ _ _ _ _ _ lD) hp
  exact AB ha rfl rfl rfl r
 ·refine .inr ⟨?_,hr⟩
  obtain ⟨_,_,⟨rfl,rfl⟩,r⟩:=FD 11 (by kernel_rfl) hle (r31 _ _ _ _ _ _ lD) hp
  exact AB ha rfl rfl rfl r
theorem Tj (e:Int) (he:e≠0) (k18:Sp 18 [sR rules,.al [.J p,sT ts]] [] (.bC [Zw,.ab,sI e]) []):Sp 31 [sR rules,gU p ts] [] (.bC [Zw,sI e]) []:=by
 obtain ⟨_,_,⟨rfl,rfl⟩,r⟩:=Zq rules p ts e (decide_eq_false he) k18
 exact AB (by simp [aa,aJ,gU,vr]) rfl rfl rfl r
theorem Zv (k18:Sp 18 [sR rules,.al [.J p,sT ts]] [] (.bC [.al [.ab,.J p,sT ts,.ab],.ab,sI 0]) []):Sp 31 [sR rules,gU p ts] [] (.bC [.al [.ab,.J p,sT ts,.ab],sI 0]) []:=by
 obtain ⟨_,_,⟨rfl,rfl⟩,r⟩:=Zr rules p ts k18
 exact AB (by simp [aa,aJ,gU,vr]) rfl rfl rfl r
end
end Go.Ped
