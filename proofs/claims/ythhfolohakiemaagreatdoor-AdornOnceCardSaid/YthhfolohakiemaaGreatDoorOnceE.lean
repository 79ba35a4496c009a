/- What the functions of the package adorn answer is proved for every input. -/
import Derived.Test.YthhfolohakiemaaGreatDoorOnceD
set_option linter.unusedVariables false
set_option linter.unnecessarySimpa false
set_option linter.unusedSimpArgs false
namespace Go.Ped
open Go.RowKit Go.Proofs
theorem k46p (L:List Ad) (p s:ByteArray) (rk rv:List AV) (out:List Ru) (hl:L.length<1000000) (hp:p.size<1000000000000000000) (hs:s.size<1000000000000000000):Sp 46 [.elt 100000 0 0,.agg [.str p,.str s]] (wp L rk rv out) (.str (nameT p s)) (wp (meetL L (p,s)) rk rv out):=k46 L (p,s) rk rv out hl hp hs
theorem clip2 {P:Program} {f:FuncId} {x:AV} {r:AV} (h:Spec P f [x,.seq [] false] [] r []):Spec P f [x,.seq [] true] [] r []:=h.wkA rfl fun i a b h1 h2=>by
 match i,h1,h2 with
 |0,h1,h2=>simp at h1 h2;subst h1;subst h2;exact .refl _
 |1,h1,h2=>simp at h1 h2;subst h1;subst h2;exact .clip [] true
 |n+2,h1,h2=>simp at h1
theorem k10c (p:ByteArray) (ts:List Tm) (hts:ts.length<1000000000000):Sp 10 [.agg [.str p,.seq (ts.map Tm.av) false],.seq [] true] [] (.str (patT ts [])) []:=clip2 (pat_spec p ts false [] false hts (by simp))
abbrev Z2d0 (bd:List Li):Nat×Ob:=(45007,.row 16 (bd.map Li.av))
theorem n83 (bd:List Li) (hne:bd≠[]) (hsm:bd.length≤1000) (hT:tinyB bd):∃i:Nat,i<bd.length∧Sp 83 [.row 45007 0 (bd.map Li.av).length,.seq [] true] [Z2d0 bd] (.int .i64 (i:Int)) []:=by
 obtain ⟨i,hi,h⟩:=k83 bd [] hne (by simp) hsm hT
 exact ⟨i,hi,(clip2 h).borrow [Z2d0 bd] rfl (bare1 (bareL bd)) rfl (all1 rfl) rfl⟩
theorem le_nilC {n:Nat} {st:St} (t:Nat) (ht:lookD st.env t= .nils):Le n st ⟨(t,.seq [] true)::st.env,st.hp⟩:=by
 rintro F a w ⟨S,β,⟨e1,e2,e3⟩,M⟩
 refine ⟨S,β,⟨e1,e2,fun k=> ?_⟩,M⟩
 by_cases e:t=k
 ·subst e
  have h:=e3 t
  rw [ht] at h
  have e4:lookD ((t,AV.seq [] true)::st.env) t= .seq [] true:=by simp [lookD,look]
  rw [e4]
  generalize a.eval (.tmp t)=v at h⊢
  cases h
  exact .seq none 0 0 0 0 [] true (fun _ _=>undef) (by simp) (by simp [maxLen]) (fun _=>rfl) (fun h=>absurd rfl h) (by simp) (by simp) (by simp)
 ·have e4:lookD ((t,AV.seq [] true)::st.env) k=lookD st.env k:=by simp [lookD,look,e]
  rw [e4];exact e3 k
theorem k84p (x:Li) (hB:x.terms.length<100000000):Sp 84 [x.av] [] x.av []:=k84 x hB
abbrev Z2d1:Nat×AV:=(0,.elt 100000 0 0)
abbrev Z2d2:Nat×AV:=(6,.seq [] true)
abbrev Z2d3:Nat×AV:=(10,.elt 10 0 0)
abbrev Z2d4 (L:List Ad) (rn:List ByteArray) (rv:List AV) (out:List Ru):Nat×Ob:=(100000,.var [.own 2 (L.map adA),.map 100001,.tmap (rn.map AV.str) rv,.own 3 (out.map Ru.av)])
abbrev Z2d5 (L:List Ad):Nat×Ob:=(100001,.map (L.map adA) (ixs L.length))
abbrev Z2d6 (nm:ByteArray) (hd:List Ar) (bo:List Li):Nat×Ob:=(10,.var [.str nm,.seq (hd.map Ar.av) false,.own 16 (bo.map Li.av)])
abbrev Z2d7 (i:Nat):Nat×AV:=(12,.int .i64 (i:Int))
theorem r47an (L:List Ad) (rn:List ByteArray) (rv:List AV) (out:List Ru) (nm:ByteArray) (hd:List Ar) (bd bo:List Li) (i:Nat) (k83:Sp 83 [.row 45007 0 (bd.map Li.av).length,.seq [] true] [Z2d0 bd] (.int .i64 (i:Int)) []):EN 119 (regOf Tryz.f47 57) ⟨[Z2d1,Z2d2,Z2d3,(11,.row 45007 0 (bd.map Li.av).length)],[Z2d4 L rn rv out,Z2d5 L,Z2d6 nm hd bo,Z2d0 bd]⟩ ⟨[Z2d1,Z2d2,Z2d3,(11,.row 45007 0 (bd.map Li.av).length),Z2d7 i],[Z2d4 L rn rv out,Z2d5 L,Z2d6 nm hd bo,Z2d0 bd]⟩:=by
 have hs0:=k83
 exact gE ⟨rfl,rfl⟩ 0 [.call (.int .i64 (i:Int)) [45007] []] [0,6,10,11,12] [(100000,.keep 100000 false),(100001,.keep 100001 true),(10,.keep 10 false),(45007,.keep 45007 true)] (aC3 hs0 (show noIdsL (L.map adA)=true∧noIdsL (ixs L.length)=true from by simp) (show noIdsL (bd.map Li.av)=true from by simp))
abbrev Z2d8:Nat×AV:=(13,.elt 13 0 0)
abbrev Z2d9 (x:Li):Nat×Ob:=(13,.var x.cells)
abbrev Z2dd (bd bo:List Li) (i:Nat) (L:List Ad) (rn:List ByteArray) (rv:List AV) (out:List Ru) (nm:ByteArray) (hd:List Ar) (x:Li):St:=⟨[Z2d1,Z2d2,Z2d3,(11,.row 45007 0 (bd.map Li.av).length),Z2d7 i,Z2d8],[Z2d4 L rn rv out,Z2d5 L,Z2d6 nm hd bo,Z2d0 bd,Z2d9 x]⟩
theorem r47bn (L:List Ad) (rn:List ByteArray) (rv:List AV) (out:List Ru) (nm:ByteArray) (hd:List Ar) (bd bo:List Li) (i:Nat) (x:Li) (hx:(bd.map Li.av)[0+Int.toNat (i:Int)]? =some x.av) (hi:i<bd.length) (hB:x.terms.length<100000000):EN 119 (regOf Tryz.f47 60) ⟨[Z2d1,Z2d2,Z2d3,(11,.row 45007 0 (bd.map Li.av).length),Z2d7 i],[Z2d4 L rn rv out,Z2d5 L,Z2d6 nm hd bo,Z2d0 bd]⟩ (Z2dd bd bo i L rn rv out nm hd x):=by
 have hs0:=k84p x (by assumption)
 exact gE ⟨rfl,rfl⟩ 0 [.elt (Li.av x),.call (.agg x.cells) [] []] [0,6,10,11,12,13] [(100000,.keep 100000 false),(100001,.keep 100001 true),(10,.keep 10 false),(45007,.keep 45007 true),(13,.keep 13 true)] (aC6 (show 0≤(i:Int)∧(i:Int)<(↑(bd.map Li.av).length:Int) from by simp;omega) hx hs0 (show noIdsL (L.map adA)=true∧noIdsL (ixs L.length)=true from by simp) (show noIdsL (bd.map Li.av)=true from by simp) rT)
abbrev Z2da:Nat×AV:=(79,.bool false)
abbrev Z2de (bd bo:List Li) (i:Nat) (L:List Ad) (rn:List ByteArray) (rv:List AV) (out:List Ru) (nm:ByteArray) (hd:List Ar) (x:Li):St:=⟨[Z2d1,Z2d2,Z2d3,(11,.row 45007 0 (bd.map Li.av).length),Z2d7 i,Z2d8,Z2da],[Z2d4 L rn rv out,Z2d5 L,Z2d6 nm hd bo,Z2d0 bd,Z2d9 x]⟩
theorem r47cn (L:List Ad) (rn:List ByteArray) (rv:List AV) (out:List Ru) (nm:ByteArray) (hd:List Ar) (bd bo:List Li) (i:Nat) (x:Li) (hk:decide (x.k=1)=false):EN 119 (regOf Tryz.f47 65) (Z2dd bd bo i L rn rv out nm hd x) (Z2de bd bo i L rn rv out nm hd x):=by
 exact gE ⟨rfl,rfl⟩ 0 [.is false] [0,6,10,11,12,13,79] [(100000,.keep 100000 false),(100001,.keep 100001 true),(10,.keep 10 false),(45007,.keep 45007 true),(13,.keep 13 true)] (aC4 hk (show noIdsL (L.map adA)=true∧noIdsL (ixs L.length)=true from by simp) (show noIdsL (bd.map Li.av)=true from by simp) rT)
theorem r47dn (L:List Ad) (rn:List ByteArray) (rv:List AV) (out:List Ru) (nm:ByteArray) (hd:List Ar) (bd bo:List Li) (i:Nat) (x:Li) (hk:decide (x.k=1)=true) (hf:findA true (.str x.p) (rn.map AV.str) 0=some none):EN 119 (regOf Tryz.f47 65) (Z2dd bd bo i L rn rv out nm hd x) (Z2de bd bo i L rn rv out nm hd x):=by
 exact gE ⟨rfl,rfl⟩ 0 [.is true,.is false,.is false] [0,6,10,11,12,13,79] [(100000,.keep 100000 false),(100001,.keep 100001 true),(10,.keep 10 false),(45007,.keep 45007 true),(13,.keep 13 true)] (aC6 hk hf (show false=false from rfl) (show noIdsL (L.map adA)=true∧noIdsL (ixs L.length)=true from by simp) (show noIdsL (bd.map Li.av)=true from by simp) rT)
abbrev Z2db:Nat×AV:=(79,.bool true)
abbrev Z2dh (bd:List Li) (i:Nat):List (Nat×AV):=[Z2d1,Z2d2,Z2d3,(11,.row 45007 0 (bd.map Li.av).length),Z2d7 i,Z2d8,Z2db]
theorem r47en (L:List Ad) (rn:List ByteArray) (rv:List AV) (out:List Ru) (nm:ByteArray) (hd:List Ar) (bd bo:List Li) (i:Nat) (x:Li) (es:List AV) (he:decide ((0:Int)<((es.length:Nat):Int))=true) (hk:decide (x.k=1)=true) (hf:∃j,findA true (.str x.p) (rn.map AV.str) 0=some (some j)∧rv[j]? =some (.seq es false)):EN 119 (regOf Tryz.f47 65) (Z2dd bd bo i L rn rv out nm hd x) ⟨(Z2dh bd i),[Z2d4 L rn rv out,Z2d5 L,Z2d6 nm hd bo,Z2d0 bd,Z2d9 x]⟩:=by
 exact gE ⟨rfl,rfl⟩ 0 [.is true,.elt (.seq es false),.is true] [0,6,10,11,12,13,79] [(100000,.keep 100000 false),(100001,.keep 100001 true),(10,.keep 10 false),(45007,.keep 45007 true),(13,.keep 13 true)] (aC6 hk hf he (show noIdsL (L.map adA)=true∧noIdsL (ixs L.length)=true from by simp) (show noIdsL (bd.map Li.av)=true from by simp) rT)
theorem r47fn (L:List Ad) (rn:List ByteArray) (rv:List AV) (out:List Ru) (nm:ByteArray) (hd:List Ar) (bd bo:List Li) (i:Nat) (x:Li):EN 119 (condOf Tryz.f47 79) (Z2de bd bo i L rn rv out nm hd x) (Z2dd bd bo i L rn rv out nm hd x):=by
 exact gE ⟨rfl,rfl⟩ 0 [] [0,6,10,11,12,13] [(100000,.keep 100000 false),(100001,.keep 100001 true),(10,.keep 10 false),(45007,.keep 45007 true),(13,.keep 13 true)] (aC3 (show noIdsL (L.map adA)=true∧noIdsL (ixs L.length)=true from by simp) (show noIdsL (bd.map Li.av)=true from by simp) rT)
theorem r47gn (L:List Ad) (rn:List ByteArray) (rv:List AV) (out:List Ru) (nm:ByteArray) (hd:List Ar) (bd bo:List Li) (i:Nat) (x:Li) (hl:L.length<1000000) (hxp:x.p.size<1000000) (hts:x.ts.length<1000000) (hps:(patT x.ts []).size<1000000000000000000):EN 119 (condOf Tryz.f47 79) ⟨(Z2dh bd i),[Z2d4 L rn rv out,Z2d5 L,Z2d6 nm hd bo,Z2d0 bd,Z2d9 x]⟩ ⟨[Z2d1,Z2d2,Z2d3,(11,.row 45007 0 (bd.map Li.av).length),Z2d7 i,Z2d8],[(100000,.var [.own 2 ((meetL L (x.p,patT x.ts [])).map adA),.map 100001,.tmap (rn.map AV.str) rv,.own 3 (out.map Ru.av)]),(100001,.map ((meetL L (x.p,patT x.ts [])).map adA) (ixs (meetL L (x.p,patT x.ts [])).length)),Z2d6 nm hd bo,Z2d0 bd,(13,.var (({x with p:=nameT x.p (patT x.ts [])}:Li)).cells)]⟩:=by
 have hs0:=k10c x.2 x.3 (by omega)
 have hs1:=k46p L x.2 (patT x.3 []) (List.map AV.str rn) (rv) (out) (by assumption) (by omega) (by assumption)
 exact gE ⟨rfl,rfl⟩ 0 [.call (.str (patT x.3 [])) [] [],.call (.str (nameT x.2 (patT x.3 []))) [100000,100001] [(100000,.var [.own 2 (List.map adA (meetL L (x.2,patT x.3 []))),.map 100001,.tmap (rn.map AV.str) rv,.own 3 (out.map Ru.av)]),(100001,.map (List.map adA (meetL L (x.2,patT x.3 []))) (ixs (List.length (meetL L (x.2,patT x.3 [])))))]] [0,6,10,11,12,13] [(100000,.keep 100000 false),(100001,.keep 100001 true),(10,.keep 10 false),(45007,.keep 45007 true),(13,.keep 13 true)] (aC5 hs0 hs1 (show noIdsL (List.map adA (meetL L (x.2,patT x.3 [])))=true∧noIdsL (ixs (List.length (meetL L (x.2,patT x.3 []))))=true from by simp) (show noIdsL (bd.map Li.av)=true from by simp) rT)
abbrev Z2dc (ks:List ByteArray):Nat×Ob:=(143,.row 1 (ks.map AV.str))
abbrev Z2di (ks:List ByteArray) (bd:List Li) (i:Nat):List (Nat×AV):=[Z2d1,(6,.row 143 0 (ks.map AV.str).length),Z2d3,(11,.row 45007 0 (bd.map Li.av).length),Z2d7 i]
theorem r47ar (L:List Ad) (rn:List ByteArray) (rv:List AV) (out:List Ru) (nm:ByteArray) (hd:List Ar) (bd bo:List Li) (ks:List ByteArray) (i:Nat) (k83:Sp 83 [.row 45007 0 (bd.map Li.av).length,.row 143 0 (ks.map AV.str).length] [Z2d0 bd,Z2dc ks] (.int .i64 (i:Int)) []):EN 119 (regOf Tryz.f47 57) ⟨[Z2d1,(6,.row 143 0 (ks.map AV.str).length),Z2d3,(11,.row 45007 0 (bd.map Li.av).length)],[Z2d4 L rn rv out,Z2d5 L,Z2dc ks,Z2d6 nm hd bo,Z2d0 bd]⟩ ⟨(Z2di ks bd i),[Z2d4 L rn rv out,Z2d5 L,Z2dc ks,Z2d6 nm hd bo,Z2d0 bd]⟩:=by
 have hs0:=k83
 exact gE ⟨rfl,rfl⟩ 0 [.call (.int .i64 (i:Int)) [45007,143] []] [0,6,10,11,12] [(100000,.keep 100000 false),(100001,.keep 100001 true),(143,.keep 143 true),(10,.keep 10 false),(45007,.keep 45007 true)] (aC4 hs0 (show noIdsL (L.map adA)=true∧noIdsL (ixs L.length)=true from by simp) (show noIdsL (ks.map AV.str)=true from by simp) (show noIdsL (bd.map Li.av)=true from by simp))
abbrev Z2df (ks rn:List ByteArray) (bd bo:List Li) (i:Nat) (L:List Ad) (rv:List AV) (out:List Ru) (nm:ByteArray) (hd:List Ar) (x:Li):St:=⟨[Z2d1,(6,.row 143 0 (ks.map AV.str).length),Z2d3,(11,.row 45007 0 (bd.map Li.av).length),Z2d7 i,Z2d8],[Z2d4 L rn rv out,Z2d5 L,Z2dc ks,Z2d6 nm hd bo,Z2d0 bd,Z2d9 x]⟩
theorem r47br (L:List Ad) (rn:List ByteArray) (rv:List AV) (out:List Ru) (nm:ByteArray) (hd:List Ar) (bd bo:List Li) (ks:List ByteArray) (i:Nat) (x:Li) (hx:(bd.map Li.av)[0+Int.toNat (i:Int)]? =some x.av) (hi:i<bd.length) (hB:x.terms.length<100000000):EN 119 (regOf Tryz.f47 60) ⟨(Z2di ks bd i),[Z2d4 L rn rv out,Z2d5 L,Z2dc ks,Z2d6 nm hd bo,Z2d0 bd]⟩ (Z2df ks rn bd bo i L rv out nm hd x):=by
 have hs0:=k84p x (by assumption)
 exact gE ⟨rfl,rfl⟩ 0 [.elt (Li.av x),.call (.agg x.cells) [] []] [0,6,10,11,12,13] [(100000,.keep 100000 false),(100001,.keep 100001 true),(143,.keep 143 true),(10,.keep 10 false),(45007,.keep 45007 true),(13,.keep 13 true)] (aC7 (show 0≤(i:Int)∧(i:Int)<(↑(bd.map Li.av).length:Int) from by simp;omega) hx hs0 (show noIdsL (L.map adA)=true∧noIdsL (ixs L.length)=true from by simp) (show noIdsL (ks.map AV.str)=true from by simp) (show noIdsL (bd.map Li.av)=true from by simp) rT)
abbrev Z2dg (ks rn:List ByteArray) (bd bo:List Li) (i:Nat) (L:List Ad) (rv:List AV) (out:List Ru) (nm:ByteArray) (hd:List Ar) (x:Li):St:=⟨[Z2d1,(6,.row 143 0 (ks.map AV.str).length),Z2d3,(11,.row 45007 0 (bd.map Li.av).length),Z2d7 i,Z2d8,Z2da],[Z2d4 L rn rv out,Z2d5 L,Z2dc ks,Z2d6 nm hd bo,Z2d0 bd,Z2d9 x]⟩
theorem r47cr (L:List Ad) (rn:List ByteArray) (rv:List AV) (out:List Ru) (nm:ByteArray) (hd:List Ar) (bd bo:List Li) (ks:List ByteArray) (i:Nat) (x:Li) (hk:decide (x.k=1)=false):EN 119 (regOf Tryz.f47 65) (Z2df ks rn bd bo i L rv out nm hd x) (Z2dg ks rn bd bo i L rv out nm hd x):=by
 exact gE ⟨rfl,rfl⟩ 0 [.is false] [0,6,10,11,12,13,79] [(100000,.keep 100000 false),(100001,.keep 100001 true),(143,.keep 143 true),(10,.keep 10 false),(45007,.keep 45007 true),(13,.keep 13 true)] (aC5 hk (show noIdsL (L.map adA)=true∧noIdsL (ixs L.length)=true from by simp) (show noIdsL (ks.map AV.str)=true from by simp) (show noIdsL (bd.map Li.av)=true from by simp) rT)
theorem r47dr (L:List Ad) (rn:List ByteArray) (rv:List AV) (out:List Ru) (nm:ByteArray) (hd:List Ar) (bd bo:List Li) (ks:List ByteArray) (i:Nat) (x:Li) (hk:decide (x.k=1)=true) (hf:findA true (.str x.p) (rn.map AV.str) 0=some none):EN 119 (regOf Tryz.f47 65) (Z2df ks rn bd bo i L rv out nm hd x) (Z2dg ks rn bd bo i L rv out nm hd x):=by
 exact gE ⟨rfl,rfl⟩ 0 [.is true,.is false,.is false] [0,6,10,11,12,13,79] [(100000,.keep 100000 false),(100001,.keep 100001 true),(143,.keep 143 true),(10,.keep 10 false),(45007,.keep 45007 true),(13,.keep 13 true)] (aC7 hk hf (show false=false from rfl) (show noIdsL (L.map adA)=true∧noIdsL (ixs L.length)=true from by simp) (show noIdsL (ks.map AV.str)=true from by simp) (show noIdsL (bd.map Li.av)=true from by simp) rT)
abbrev Z2dj (ks:List ByteArray) (bd:List Li) (i:Nat):List (Nat×AV):=[Z2d1,(6,.row 143 0 (ks.map AV.str).length),Z2d3,(11,.row 45007 0 (bd.map Li.av).length),Z2d7 i,Z2d8,Z2db]
theorem r47er (L:List Ad) (rn:List ByteArray) (rv:List AV) (out:List Ru) (nm:ByteArray) (hd:List Ar) (bd bo:List Li) (ks:List ByteArray) (i:Nat) (x:Li) (es:List AV) (he:decide ((0:Int)<((es.length:Nat):Int))=true) (hk:decide (x.k=1)=true) (hf:∃j,findA true (.str x.p) (rn.map AV.str) 0=some (some j)∧rv[j]? =some (.seq es false)):EN 119 (regOf Tryz.f47 65) (Z2df ks rn bd bo i L rv out nm hd x) ⟨(Z2dj ks bd i),[Z2d4 L rn rv out,Z2d5 L,Z2dc ks,Z2d6 nm hd bo,Z2d0 bd,Z2d9 x]⟩:=by
 exact gE ⟨rfl,rfl⟩ 0 [.is true,.elt (.seq es false),.is true] [0,6,10,11,12,13,79] [(100000,.keep 100000 false),(100001,.keep 100001 true),(143,.keep 143 true),(10,.keep 10 false),(45007,.keep 45007 true),(13,.keep 13 true)] (aC7 hk hf he (show noIdsL (L.map adA)=true∧noIdsL (ixs L.length)=true from by simp) (show noIdsL (ks.map AV.str)=true from by simp) (show noIdsL (bd.map Li.av)=true from by simp) rT)
theorem r47fr (L:List Ad) (rn:List ByteArray) (rv:List AV) (out:List Ru) (nm:ByteArray) (hd:List Ar) (bd bo:List Li) (ks:List ByteArray) (i:Nat) (x:Li):EN 119 (condOf Tryz.f47 79) (Z2dg ks rn bd bo i L rv out nm hd x) (Z2df ks rn bd bo i L rv out nm hd x):=by
 exact gE ⟨rfl,rfl⟩ 0 [] [0,6,10,11,12,13] [(100000,.keep 100000 false),(100001,.keep 100001 true),(143,.keep 143 true),(10,.keep 10 false),(45007,.keep 45007 true),(13,.keep 13 true)] (aC4 (show noIdsL (L.map adA)=true∧noIdsL (ixs L.length)=true from by simp) (show noIdsL (ks.map AV.str)=true from by simp) (show noIdsL (bd.map Li.av)=true from by simp) rT)
theorem r47gr (L:List Ad) (rn:List ByteArray) (rv:List AV) (out:List Ru) (nm:ByteArray) (hd:List Ar) (bd bo:List Li) (ks:List ByteArray) (hks:ks.length<1000000) (i:Nat) (x:Li) (hl:L.length<1000000) (hxp:x.p.size<1000000) (hts:x.ts.length<1000000) (hps:(patT x.ts ks).size<1000000000000000000):EN 119 (condOf Tryz.f47 79) ⟨(Z2dj ks bd i),[Z2d4 L rn rv out,Z2d5 L,Z2dc ks,Z2d6 nm hd bo,Z2d0 bd,Z2d9 x]⟩ ⟨[Z2d1,(6,.row 143 0 (ks.map AV.str).length),Z2d3,(11,.row 45007 0 (bd.map Li.av).length),Z2d7 i,Z2d8],[(100000,.var [.own 2 ((meetL L (x.p,patT x.ts ks)).map adA),.map 100001,.tmap (rn.map AV.str) rv,.own 3 (out.map Ru.av)]),(100001,.map ((meetL L (x.p,patT x.ts ks)).map adA) (ixs (meetL L (x.p,patT x.ts ks)).length)),Z2dc ks,Z2d6 nm hd bo,Z2d0 bd,(13,.var (({x with p:=nameT x.p (patT x.ts ks)}:Li)).cells)]⟩:=by
 have hs0:=k10b x.2 x.3 ks (by omega) (by omega)
 have hs1:=k46p L x.2 (patT x.3 ks) (List.map AV.str rn) (rv) (out) (by assumption) (by omega) (by assumption)
 exact gE ⟨rfl,rfl⟩ 0 [.call (.str (patT x.3 ks)) [143] [],.call (.str (nameT x.2 (patT x.3 ks))) [100000,100001] [(100000,.var [.own 2 (List.map adA (meetL L (x.2,patT x.3 ks))),.map 100001,.tmap (rn.map AV.str) rv,.own 3 (out.map Ru.av)]),(100001,.map (List.map adA (meetL L (x.2,patT x.3 ks))) (ixs (List.length (meetL L (x.2,patT x.3 ks)))))]] [0,6,10,11,12,13] [(100000,.keep 100000 false),(100001,.keep 100001 true),(143,.keep 143 true),(10,.keep 10 false),(45007,.keep 45007 true),(13,.keep 13 true)] (aC6 hs0 hs1 (show noIdsL (List.map adA (meetL L (x.2,patT x.3 ks)))=true∧noIdsL (ixs (List.length (meetL L (x.2,patT x.3 ks))))=true from by simp) (show noIdsL (ks.map AV.str)=true from by simp) (show noIdsL (bd.map Li.av)=true from by simp) rT)
theorem okE_strs (l:List ByteArray):∀e,e∈l.map AV.str→okE 1 e:=fun e he=>by
 obtain ⟨x,_,rfl⟩:=List.mem_map.1 he
 simp
abbrev Z2e0:Nat×AV:=(0,.elt 100000 0 0)
abbrev Z2e1:Nat×AV:=(6,.seq [] true)
abbrev Z2e2:Nat×AV:=(10,.elt 10 0 0)
abbrev Z2e3 (i:Nat):Nat×AV:=(12,.int .i64 (i:Int))
abbrev Z2e4:Nat×AV:=(13,.elt 13 0 0)
abbrev Z2e5 (L:List Ad) (rn:List ByteArray) (rv:List AV) (out:List Ru):Nat×Ob:=(100000,.var [.own 2 (L.map adA),.map 100001,.tmap (rn.map AV.str) rv,.own 3 (out.map Ru.av)])
abbrev Z2e6 (L:List Ad):Nat×Ob:=(100001,.map (L.map adA) (ixs L.length))
abbrev Z2e7 (bd:List Li):Nat×Ob:=(45007,.row 16 (bd.map Li.av))
abbrev Z2e8 (x:Li):Nat×Ob:=(13,.var x.cells)
abbrev Z2ee (bd:List Li) (i:Nat):List (Nat×AV):=[Z2e0,Z2e1,Z2e2,(11,.row 45007 0 (bd.map Li.av).length),Z2e3 i,Z2e4]
theorem r47hnn (L:List Ad) (rn:List ByteArray) (rv:List AV) (out:List Ru) (nm:ByteArray) (hd:List Ar) (bd bo:List Li) (i:Nat) (x:Li):EN 119 (regOf Tryz.f47 94) ⟨(Z2ee bd i),[Z2e5 L rn rv out,Z2e6 L,(10,.var [.str nm,.seq (hd.map Ar.av) false,.nils]),Z2e7 bd,Z2e8 x]⟩ ⟨(Z2ee bd i),[Z2e5 L rn rv out,Z2e6 L,(10,.var [.str nm,.seq (hd.map Ar.av) false,.row 98 0 1]),Z2e7 bd,Z2e8 x,(98,.row 16 [x.av])]⟩:=by
 exact gE ⟨rfl,rfl⟩ 0 [.is true] [0,6,10,11,12,13] [(100000,.keep 100000 false),(100001,.keep 100001 true),(10,.keep 10 false),(45007,.keep 45007 true),(13,.keep 13 true),(98,.keep 98 true)] (aC5 (show 1≤List.length [AV.agg [AV.int .i8 x.1,AV.str x.2,AV.seq (List.map Tm.av x.3) false,AV.int .i8 x.4,AV.int .i8 (Ex.op (Li.l x)),AV.str (Ex.t (Li.l x)).1,AV.int .i8 (Ex.t (Li.l x)).2,AV.int .i64 (Ex.t (Li.l x)).3,AV.str (Ex.t (Li.l x)).4,AV.seq (List.map Ex.av (Ex.kids (Li.l x))) false,AV.int .i8 (Ex.op (Li.r x)),AV.str (Ex.t (Li.r x)).1,AV.int .i8 (Ex.t (Li.r x)).2,AV.int .i64 (Ex.t (Li.r x)).3,AV.str (Ex.t (Li.r x)).4,AV.seq (List.map Ex.av (Ex.kids (Li.r x))) false]]∧[AV.agg [AV.int .i8 x.1,AV.str x.2,AV.seq (List.map Tm.av x.3) false,AV.int .i8 x.4,AV.int .i8 (Ex.op (Li.l x)),AV.str (Ex.t (Li.l x)).1,AV.int .i8 (Ex.t (Li.l x)).2,AV.int .i64 (Ex.t (Li.l x)).3,AV.str (Ex.t (Li.l x)).4,AV.seq (List.map Ex.av (Ex.kids (Li.l x))) false,AV.int .i8 (Ex.op (Li.r x)),AV.str (Ex.t (Li.r x)).1,AV.int .i8 (Ex.t (Li.r x)).2,AV.int .i64 (Ex.t (Li.r x)).3,AV.str (Ex.t (Li.r x)).4,AV.seq (List.map Ex.av (Ex.kids (Li.r x))) false]]≠[]∧(∀(e:AV),e∈[AV.agg [AV.int .i8 x.1,AV.str x.2,AV.seq (List.map Tm.av x.3) false,AV.int .i8 x.4,AV.int .i8 (Ex.op (Li.l x)),AV.str (Ex.t (Li.l x)).1,AV.int .i8 (Ex.t (Li.l x)).2,AV.int .i64 (Ex.t (Li.l x)).3,AV.str (Ex.t (Li.l x)).4,AV.seq (List.map Ex.av (Ex.kids (Li.l x))) false,AV.int .i8 (Ex.op (Li.r x)),AV.str (Ex.t (Li.r x)).1,AV.int .i8 (Ex.t (Li.r x)).2,AV.int .i64 (Ex.t (Li.r x)).3,AV.str (Ex.t (Li.r x)).4,AV.seq (List.map Ex.av (Ex.kids (Li.r x))) false]]→okE 16 e)∧(∀(e:AV),e∈[]→okE 16 e)∧(↑(0+List.length [AV.agg [AV.int .i8 x.1,AV.str x.2,AV.seq (List.map Tm.av x.3) false,AV.int .i8 x.4,AV.int .i8 (Ex.op (Li.l x)),AV.str (Ex.t (Li.l x)).1,AV.int .i8 (Ex.t (Li.l x)).2,AV.int .i64 (Ex.t (Li.l x)).3,AV.str (Ex.t (Li.l x)).4,AV.seq (List.map Ex.av (Ex.kids (Li.l x))) false,AV.int .i8 (Ex.op (Li.r x)),AV.str (Ex.t (Li.r x)).1,AV.int .i8 (Ex.t (Li.r x)).2,AV.int .i64 (Ex.t (Li.r x)).3,AV.str (Ex.t (Li.r x)).4,AV.seq (List.map Ex.av (Ex.kids (Li.r x))) false]]):Int)*216≤140737488355328∧0+List.length [AV.agg [AV.int .i8 x.1,AV.str x.2,AV.seq (List.map Tm.av x.3) false,AV.int .i8 x.4,AV.int .i8 (Ex.op (Li.l x)),AV.str (Ex.t (Li.l x)).1,AV.int .i8 (Ex.t (Li.l x)).2,AV.int .i64 (Ex.t (Li.l x)).3,AV.str (Ex.t (Li.l x)).4,AV.seq (List.map Ex.av (Ex.kids (Li.l x))) false,AV.int .i8 (Ex.op (Li.r x)),AV.str (Ex.t (Li.r x)).1,AV.int .i8 (Ex.t (Li.r x)).2,AV.int .i64 (Ex.t (Li.r x)).3,AV.str (Ex.t (Li.r x)).4,AV.seq (List.map Ex.av (Ex.kids (Li.r x))) false]]≤9223372036854775807 from by simp) (show noIdsL (L.map adA)=true∧noIdsL (ixs L.length)=true from by simp) (show noIdsL (bd.map Li.av)=true from by simp) rT rT)
theorem r47hnr (L:List Ad) (rn:List ByteArray) (rv:List AV) (out:List Ru) (nm:ByteArray) (hd:List Ar) (bd bo:List Li) (i:Nat) (x:Li) (hok:∀e,e∈bo.map Li.av→okE 16 e) (hbl:bo.length<1000000):EN 119 (regOf Tryz.f47 94) ⟨(Z2ee bd i),[Z2e5 L rn rv out,Z2e6 L,(10,.var [.str nm,.seq (hd.map Ar.av) false,.row 298 0 (bo.map Li.av).length]),Z2e7 bd,Z2e8 x,(298,.row 16 (bo.map Li.av))]⟩ ⟨(Z2ee bd i),[Z2e5 L rn rv out,Z2e6 L,(10,.var [.str nm,.seq (hd.map Ar.av) false,.row 98 0 ((bo.map Li.av).length+1)]),Z2e7 bd,Z2e8 x,(98,.row 16 (bo.map Li.av++[x.av]))]⟩:=by
 exact gE ⟨rfl,rfl⟩ 0 [.is true] [0,6,10,11,12,13] [(100000,.keep 100000 false),(100001,.keep 100001 true),(10,.keep 10 false),(45007,.keep 45007 true),(13,.keep 13 true),(98,.keep 98 true)] (aC5 (show (1:Nat)≤List.length [AV.agg [AV.int .i8 x.1,AV.str x.2,AV.seq (List.map Tm.av x.3) false,AV.int .i8 x.4,AV.int .i8 (Ex.op (Li.l x)),AV.str (Ex.t (Li.l x)).1,AV.int .i8 (Ex.t (Li.l x)).2,AV.int .i64 (Ex.t (Li.l x)).3,AV.str (Ex.t (Li.l x)).4,AV.seq (List.map Ex.av (Ex.kids (Li.l x))) false,AV.int .i8 (Ex.op (Li.r x)),AV.str (Ex.t (Li.r x)).1,AV.int .i8 (Ex.t (Li.r x)).2,AV.int .i64 (Ex.t (Li.r x)).3,AV.str (Ex.t (Li.r x)).4,AV.seq (List.map Ex.av (Ex.kids (Li.r x))) false]]∧(0:Nat)=(0:Nat)∧List.length (bo.map Li.av)=List.length (bo.map Li.av)∧(∀(e:AV),e∈[AV.agg [AV.int .i8 x.1,AV.str x.2,AV.seq (List.map Tm.av x.3) false,AV.int .i8 x.4,AV.int .i8 (Ex.op (Li.l x)),AV.str (Ex.t (Li.l x)).1,AV.int .i8 (Ex.t (Li.l x)).2,AV.int .i64 (Ex.t (Li.l x)).3,AV.str (Ex.t (Li.l x)).4,AV.seq (List.map Ex.av (Ex.kids (Li.l x))) false,AV.int .i8 (Ex.op (Li.r x)),AV.str (Ex.t (Li.r x)).1,AV.int .i8 (Ex.t (Li.r x)).2,AV.int .i64 (Ex.t (Li.r x)).3,AV.str (Ex.t (Li.r x)).4,AV.seq (List.map Ex.av (Ex.kids (Li.r x))) false]]→okE (16:Nat) e)∧(∀(e:AV),e∈List.map Li.av bo→okE (16:Nat) e)∧(↑(List.length (bo.map Li.av)+List.length [AV.agg [AV.int .i8 x.1,AV.str x.2,AV.seq (List.map Tm.av x.3) false,AV.int .i8 x.4,AV.int .i8 (Ex.op (Li.l x)),AV.str (Ex.t (Li.l x)).1,AV.int .i8 (Ex.t (Li.l x)).2,AV.int .i64 (Ex.t (Li.l x)).3,AV.str (Ex.t (Li.l x)).4,AV.seq (List.map Ex.av (Ex.kids (Li.l x))) false,AV.int .i8 (Ex.op (Li.r x)),AV.str (Ex.t (Li.r x)).1,AV.int .i8 (Ex.t (Li.r x)).2,AV.int .i64 (Ex.t (Li.r x)).3,AV.str (Ex.t (Li.r x)).4,AV.seq (List.map Ex.av (Ex.kids (Li.r x))) false]]):Int)*(216:Int)≤(140737488355328:Int)∧List.length (bo.map Li.av)+List.length [AV.agg [AV.int .i8 x.1,AV.str x.2,AV.seq (List.map Tm.av x.3) false,AV.int .i8 x.4,AV.int .i8 (Ex.op (Li.l x)),AV.str (Ex.t (Li.l x)).1,AV.int .i8 (Ex.t (Li.l x)).2,AV.int .i64 (Ex.t (Li.l x)).3,AV.str (Ex.t (Li.l x)).4,AV.seq (List.map Ex.av (Ex.kids (Li.l x))) false,AV.int .i8 (Ex.op (Li.r x)),AV.str (Ex.t (Li.r x)).1,AV.int .i8 (Ex.t (Li.r x)).2,AV.int .i64 (Ex.t (Li.r x)).3,AV.str (Ex.t (Li.r x)).4,AV.seq (List.map Ex.av (Ex.kids (Li.r x))) false]]≤(9223372036854775807:Nat) from by simp;omega) (show noIdsL (L.map adA)=true∧noIdsL (ixs L.length)=true from by simp) (show noIdsL (bd.map Li.av)=true from by simp) rT (show noIdsL (List.map Li.av bo++[AV.agg [AV.int .i8 x.1,AV.str x.2,AV.seq (List.map Tm.av x.3) false,AV.int .i8 x.4,AV.int .i8 (Ex.op (Li.l x)),AV.str (Ex.t (Li.l x)).1,AV.int .i8 (Ex.t (Li.l x)).2,AV.int .i64 (Ex.t (Li.l x)).3,AV.str (Ex.t (Li.l x)).4,AV.seq (List.map Ex.av (Ex.kids (Li.l x))) false,AV.int .i8 (Ex.op (Li.r x)),AV.str (Ex.t (Li.r x)).1,AV.int .i8 (Ex.t (Li.r x)).2,AV.int .i64 (Ex.t (Li.r x)).3,AV.str (Ex.t (Li.r x)).4,AV.seq (List.map Ex.av (Ex.kids (Li.r x))) false]])=true from by simp))
abbrev Z2e9 (nm:ByteArray) (hd:List Ar) (bo:List Li):Nat×Ob:=(10,.var [.str nm,.seq (hd.map Ar.av) false,.own 16 (bo.map Li.av)])
abbrev Z2ec (bd bo:List Li) (i:Nat) (L:List Ad) (rn:List ByteArray) (rv:List AV) (out:List Ru) (nm:ByteArray) (hd:List Ar) (x:Li):St:=⟨[Z2e0,Z2e1,Z2e2,(11,.row 45007 0 (bd.map Li.av).length),Z2e3 i,Z2e4],[Z2e5 L rn rv out,Z2e6 L,Z2e9 nm hd bo,Z2e7 bd,Z2e8 x]⟩
theorem r47in (L:List Ad) (rn:List ByteArray) (rv:List AV) (out:List Ru) (nm:ByteArray) (hd:List Ar) (bd bo:List Li) (i:Nat) (x:Li) (k52:Sp 52 [x.av] [] (.seq ((varsOf x.terms).map AV.str) false) []) (hv:(varsOf x.terms).map AV.str=[]):EN 119 (regOf Tryz.f47 100) (Z2ec bd bo i L rn rv out nm hd x) (Z2ec bd bo i L rn rv out nm hd x):=by
 exact gE ⟨rfl,rfl⟩ 0 [.call (.seq (List.map AV.str (varsOf (Li.terms x))) false) [] [],.is false] [0,6,10,11,12,13] [(100000,.keep 100000 false),(100001,.keep 100001 true),(10,.keep 10 false),(45007,.keep 45007 true),(13,.keep 13 true)] (aC5 k52 (show True∧List.map AV.str (varsOf (Li.terms x))=[] from by simp at*;omega) (show noIdsL (L.map adA)=true∧noIdsL (ixs L.length)=true from by simp) (show noIdsL (bd.map Li.av)=true from by simp) rT)
theorem r47jn (L:List Ad) (rn:List ByteArray) (rv:List AV) (out:List Ru) (nm:ByteArray) (hd:List Ar) (bd bo:List Li) (i:Nat) (x:Li) (k52:Sp 52 [x.av] [] (.seq ((varsOf x.terms).map AV.str) false) []) (hc:True∧(varsOf x.terms).map AV.str≠[]∧(∀e,e∈(varsOf x.terms).map AV.str→okE 1 e)∧(∀e,e∈([]:List AV)→okE 1 e)∧((List.length ([]:List AV)+((varsOf x.terms).map AV.str).length:Nat):Int)*16≤140737488355328∧List.length ([]:List AV)+((varsOf x.terms).map AV.str).length≤9223372036854775807):EN 119 (regOf Tryz.f47 100) (Z2ec bd bo i L rn rv out nm hd x) ⟨[Z2e0,(6,.row 143 0 (List.length ([]:List AV)+((varsOf x.terms).map AV.str).length)),Z2e2,(11,.row 45007 0 (bd.map Li.av).length),Z2e3 i,Z2e4],[Z2e5 L rn rv out,Z2e6 L,(143,.row 1 ([]++(varsOf x.terms).map AV.str)),Z2e9 nm hd bo,Z2e7 bd,Z2e8 x]⟩:=by
 exact gE ⟨rfl,rfl⟩ 0 [.call (.seq (List.map AV.str (varsOf (Li.terms x))) false) [] [],.is true] [0,6,10,11,12,13] [(100000,.keep 100000 false),(100001,.keep 100001 true),(103,.keep 143 true),(10,.keep 10 false),(45007,.keep 45007 true),(13,.keep 13 true)] (aC6 k52 hc (show noIdsL (L.map adA)=true∧noIdsL (ixs L.length)=true from by simp) (show noIdsL ([]++List.map AV.str (varsOf (Li.terms x)))=true from by simp) (show noIdsL (bd.map Li.av)=true from by simp) rT)
theorem r47kn (L:List Ad) (rn:List ByteArray) (rv:List AV) (out:List Ru) (nm:ByteArray) (hd:List Ar) (bd bo:List Li) (i:Nat) (x:Li) (hi:i<bd.length) (hsm:bd.length≤1000):EN 119 (regOf Tryz.f47 104) (Z2ec bd bo i L rn rv out nm hd x) ⟨[Z2e0,Z2e1,Z2e2,(11,.row 45007 0 ((bd.eraseIdx i).map Li.av).length)],[Z2e5 L rn rv out,Z2e6 L,Z2e9 nm hd bo,(45007,.row 16 ((bd.eraseIdx i).map Li.av))]⟩:=by
 have hs0:=k85 bd i (by assumption) (by assumption)
 exact gE ⟨rfl,rfl⟩ 0 [.call (.row 45007 0 (List.length (List.map Li.av (List.eraseIdx bd i)))) [45007] [(45007,.row 16 (List.map Li.av (List.eraseIdx bd i)))]] [0,6,10,11] [(100000,.keep 100000 false),(100001,.keep 100001 true),(10,.keep 10 false),(45007,.keep 45007 true)] (aC4 (show IntKind.wrap .i64 ((i:Int)+1)=(i:Int)+1 from wrap64_id (by omega) (by omega)) hs0 (show noIdsL (L.map adA)=true∧noIdsL (ixs L.length)=true from by simp) (show noIdsL (List.map Li.av (List.eraseIdx bd i))=true from by simp))
abbrev Z2ea (ks:List ByteArray):Nat×Ob:=(143,.row 1 (ks.map AV.str))
abbrev Z2ef (ks:List ByteArray) (bd:List Li) (i:Nat):List (Nat×AV):=[Z2e0,(6,.row 143 0 (ks.map AV.str).length),Z2e2,(11,.row 45007 0 (bd.map Li.av).length),Z2e3 i,Z2e4]
theorem r47hrn (L:List Ad) (rn:List ByteArray) (rv:List AV) (out:List Ru) (nm:ByteArray) (hd:List Ar) (bd bo:List Li) (ks:List ByteArray) (i:Nat) (x:Li):EN 119 (regOf Tryz.f47 94) ⟨(Z2ef ks bd i),[Z2e5 L rn rv out,Z2e6 L,Z2ea ks,(10,.var [.str nm,.seq (hd.map Ar.av) false,.nils]),Z2e7 bd,Z2e8 x]⟩ ⟨(Z2ef ks bd i),[Z2e5 L rn rv out,Z2e6 L,Z2ea ks,(10,.var [.str nm,.seq (hd.map Ar.av) false,.row 98 0 1]),Z2e7 bd,Z2e8 x,(98,.row 16 [x.av])]⟩:=by
 exact gE ⟨rfl,rfl⟩ 0 [.is true] [0,6,10,11,12,13] [(100000,.keep 100000 false),(100001,.keep 100001 true),(143,.keep 143 true),(10,.keep 10 false),(45007,.keep 45007 true),(13,.keep 13 true),(98,.keep 98 true)] (aC6 (show 1≤List.length [AV.agg [AV.int .i8 x.1,AV.str x.2,AV.seq (List.map Tm.av x.3) false,AV.int .i8 x.4,AV.int .i8 (Ex.op (Li.l x)),AV.str (Ex.t (Li.l x)).1,AV.int .i8 (Ex.t (Li.l x)).2,AV.int .i64 (Ex.t (Li.l x)).3,AV.str (Ex.t (Li.l x)).4,AV.seq (List.map Ex.av (Ex.kids (Li.l x))) false,AV.int .i8 (Ex.op (Li.r x)),AV.str (Ex.t (Li.r x)).1,AV.int .i8 (Ex.t (Li.r x)).2,AV.int .i64 (Ex.t (Li.r x)).3,AV.str (Ex.t (Li.r x)).4,AV.seq (List.map Ex.av (Ex.kids (Li.r x))) false]]∧[AV.agg [AV.int .i8 x.1,AV.str x.2,AV.seq (List.map Tm.av x.3) false,AV.int .i8 x.4,AV.int .i8 (Ex.op (Li.l x)),AV.str (Ex.t (Li.l x)).1,AV.int .i8 (Ex.t (Li.l x)).2,AV.int .i64 (Ex.t (Li.l x)).3,AV.str (Ex.t (Li.l x)).4,AV.seq (List.map Ex.av (Ex.kids (Li.l x))) false,AV.int .i8 (Ex.op (Li.r x)),AV.str (Ex.t (Li.r x)).1,AV.int .i8 (Ex.t (Li.r x)).2,AV.int .i64 (Ex.t (Li.r x)).3,AV.str (Ex.t (Li.r x)).4,AV.seq (List.map Ex.av (Ex.kids (Li.r x))) false]]≠[]∧(∀(e:AV),e∈[AV.agg [AV.int .i8 x.1,AV.str x.2,AV.seq (List.map Tm.av x.3) false,AV.int .i8 x.4,AV.int .i8 (Ex.op (Li.l x)),AV.str (Ex.t (Li.l x)).1,AV.int .i8 (Ex.t (Li.l x)).2,AV.int .i64 (Ex.t (Li.l x)).3,AV.str (Ex.t (Li.l x)).4,AV.seq (List.map Ex.av (Ex.kids (Li.l x))) false,AV.int .i8 (Ex.op (Li.r x)),AV.str (Ex.t (Li.r x)).1,AV.int .i8 (Ex.t (Li.r x)).2,AV.int .i64 (Ex.t (Li.r x)).3,AV.str (Ex.t (Li.r x)).4,AV.seq (List.map Ex.av (Ex.kids (Li.r x))) false]]→okE 16 e)∧(∀(e:AV),e∈[]→okE 16 e)∧(↑(0+List.length [AV.agg [AV.int .i8 x.1,AV.str x.2,AV.seq (List.map Tm.av x.3) false,AV.int .i8 x.4,AV.int .i8 (Ex.op (Li.l x)),AV.str (Ex.t (Li.l x)).1,AV.int .i8 (Ex.t (Li.l x)).2,AV.int .i64 (Ex.t (Li.l x)).3,AV.str (Ex.t (Li.l x)).4,AV.seq (List.map Ex.av (Ex.kids (Li.l x))) false,AV.int .i8 (Ex.op (Li.r x)),AV.str (Ex.t (Li.r x)).1,AV.int .i8 (Ex.t (Li.r x)).2,AV.int .i64 (Ex.t (Li.r x)).3,AV.str (Ex.t (Li.r x)).4,AV.seq (List.map Ex.av (Ex.kids (Li.r x))) false]]):Int)*216≤140737488355328∧0+List.length [AV.agg [AV.int .i8 x.1,AV.str x.2,AV.seq (List.map Tm.av x.3) false,AV.int .i8 x.4,AV.int .i8 (Ex.op (Li.l x)),AV.str (Ex.t (Li.l x)).1,AV.int .i8 (Ex.t (Li.l x)).2,AV.int .i64 (Ex.t (Li.l x)).3,AV.str (Ex.t (Li.l x)).4,AV.seq (List.map Ex.av (Ex.kids (Li.l x))) false,AV.int .i8 (Ex.op (Li.r x)),AV.str (Ex.t (Li.r x)).1,AV.int .i8 (Ex.t (Li.r x)).2,AV.int .i64 (Ex.t (Li.r x)).3,AV.str (Ex.t (Li.r x)).4,AV.seq (List.map Ex.av (Ex.kids (Li.r x))) false]]≤9223372036854775807 from by simp) (show noIdsL (L.map adA)=true∧noIdsL (ixs L.length)=true from by simp) (show noIdsL (ks.map AV.str)=true from by simp) (show noIdsL (bd.map Li.av)=true from by simp) rT rT)
theorem r47hrr (L:List Ad) (rn:List ByteArray) (rv:List AV) (out:List Ru) (nm:ByteArray) (hd:List Ar) (bd bo:List Li) (ks:List ByteArray) (i:Nat) (x:Li) (hok:∀e,e∈bo.map Li.av→okE 16 e) (hbl:bo.length<1000000):EN 119 (regOf Tryz.f47 94) ⟨(Z2ef ks bd i),[Z2e5 L rn rv out,Z2e6 L,Z2ea ks,(10,.var [.str nm,.seq (hd.map Ar.av) false,.row 298 0 (bo.map Li.av).length]),Z2e7 bd,Z2e8 x,(298,.row 16 (bo.map Li.av))]⟩ ⟨(Z2ef ks bd i),[Z2e5 L rn rv out,Z2e6 L,Z2ea ks,(10,.var [.str nm,.seq (hd.map Ar.av) false,.row 98 0 ((bo.map Li.av).length+1)]),Z2e7 bd,Z2e8 x,(98,.row 16 (bo.map Li.av++[x.av]))]⟩:=by
 exact gE ⟨rfl,rfl⟩ 0 [.is true] [0,6,10,11,12,13] [(100000,.keep 100000 false),(100001,.keep 100001 true),(143,.keep 143 true),(10,.keep 10 false),(45007,.keep 45007 true),(13,.keep 13 true),(98,.keep 98 true)] (aC6 (show (1:Nat)≤List.length [AV.agg [AV.int .i8 x.1,AV.str x.2,AV.seq (List.map Tm.av x.3) false,AV.int .i8 x.4,AV.int .i8 (Ex.op (Li.l x)),AV.str (Ex.t (Li.l x)).1,AV.int .i8 (Ex.t (Li.l x)).2,AV.int .i64 (Ex.t (Li.l x)).3,AV.str (Ex.t (Li.l x)).4,AV.seq (List.map Ex.av (Ex.kids (Li.l x))) false,AV.int .i8 (Ex.op (Li.r x)),AV.str (Ex.t (Li.r x)).1,AV.int .i8 (Ex.t (Li.r x)).2,AV.int .i64 (Ex.t (Li.r x)).3,AV.str (Ex.t (Li.r x)).4,AV.seq (List.map Ex.av (Ex.kids (Li.r x))) false]]∧(0:Nat)=(0:Nat)∧List.length (bo.map Li.av)=List.length (bo.map Li.av)∧(∀(e:AV),e∈[AV.agg [AV.int .i8 x.1,AV.str x.2,AV.seq (List.map Tm.av x.3) false,AV.int .i8 x.4,AV.int .i8 (Ex.op (Li.l x)),AV.str (Ex.t (Li.l x)).1,AV.int .i8 (Ex.t (Li.l x)).2,AV.int .i64 (Ex.t (Li.l x)).3,AV.str (Ex.t (Li.l x)).4,AV.seq (List.map Ex.av (Ex.kids (Li.l x))) false,AV.int .i8 (Ex.op (Li.r x)),AV.str (Ex.t (Li.r x)).1,AV.int .i8 (Ex.t (Li.r x)).2,AV.int .i64 (Ex.t (Li.r x)).3,AV.str (Ex.t (Li.r x)).4,AV.seq (List.map Ex.av (Ex.kids (Li.r x))) false]]→okE (16:Nat) e)∧(∀(e:AV),e∈List.map Li.av bo→okE (16:Nat) e)∧(↑(List.length (bo.map Li.av)+List.length [AV.agg [AV.int .i8 x.1,AV.str x.2,AV.seq (List.map Tm.av x.3) false,AV.int .i8 x.4,AV.int .i8 (Ex.op (Li.l x)),AV.str (Ex.t (Li.l x)).1,AV.int .i8 (Ex.t (Li.l x)).2,AV.int .i64 (Ex.t (Li.l x)).3,AV.str (Ex.t (Li.l x)).4,AV.seq (List.map Ex.av (Ex.kids (Li.l x))) false,AV.int .i8 (Ex.op (Li.r x)),AV.str (Ex.t (Li.r x)).1,AV.int .i8 (Ex.t (Li.r x)).2,AV.int .i64 (Ex.t (Li.r x)).3,AV.str (Ex.t (Li.r x)).4,AV.seq (List.map Ex.av (Ex.kids (Li.r x))) false]]):Int)*(216:Int)≤(140737488355328:Int)∧List.length (bo.map Li.av)+List.length [AV.agg [AV.int .i8 x.1,AV.str x.2,AV.seq (List.map Tm.av x.3) false,AV.int .i8 x.4,AV.int .i8 (Ex.op (Li.l x)),AV.str (Ex.t (Li.l x)).1,AV.int .i8 (Ex.t (Li.l x)).2,AV.int .i64 (Ex.t (Li.l x)).3,AV.str (Ex.t (Li.l x)).4,AV.seq (List.map Ex.av (Ex.kids (Li.l x))) false,AV.int .i8 (Ex.op (Li.r x)),AV.str (Ex.t (Li.r x)).1,AV.int .i8 (Ex.t (Li.r x)).2,AV.int .i64 (Ex.t (Li.r x)).3,AV.str (Ex.t (Li.r x)).4,AV.seq (List.map Ex.av (Ex.kids (Li.r x))) false]]≤(9223372036854775807:Nat) from by simp;omega) (show noIdsL (L.map adA)=true∧noIdsL (ixs L.length)=true from by simp) (show noIdsL (ks.map AV.str)=true from by simp) (show noIdsL (bd.map Li.av)=true from by simp) rT (show noIdsL (List.map Li.av bo++[AV.agg [AV.int .i8 x.1,AV.str x.2,AV.seq (List.map Tm.av x.3) false,AV.int .i8 x.4,AV.int .i8 (Ex.op (Li.l x)),AV.str (Ex.t (Li.l x)).1,AV.int .i8 (Ex.t (Li.l x)).2,AV.int .i64 (Ex.t (Li.l x)).3,AV.str (Ex.t (Li.l x)).4,AV.seq (List.map Ex.av (Ex.kids (Li.l x))) false,AV.int .i8 (Ex.op (Li.r x)),AV.str (Ex.t (Li.r x)).1,AV.int .i8 (Ex.t (Li.r x)).2,AV.int .i64 (Ex.t (Li.r x)).3,AV.str (Ex.t (Li.r x)).4,AV.seq (List.map Ex.av (Ex.kids (Li.r x))) false]])=true from by simp))
abbrev Z2ed (ks rn:List ByteArray) (bd bo:List Li) (i:Nat) (L:List Ad) (rv:List AV) (out:List Ru) (nm:ByteArray) (hd:List Ar) (x:Li):St:=⟨[Z2e0,(6,.row 143 0 (ks.map AV.str).length),Z2e2,(11,.row 45007 0 (bd.map Li.av).length),Z2e3 i,Z2e4],[Z2e5 L rn rv out,Z2e6 L,Z2ea ks,Z2e9 nm hd bo,Z2e7 bd,Z2e8 x]⟩
theorem r47ir (L:List Ad) (rn:List ByteArray) (rv:List AV) (out:List Ru) (nm:ByteArray) (hd:List Ar) (bd bo:List Li) (ks:List ByteArray) (i:Nat) (x:Li) (k52:Sp 52 [x.av] [] (.seq ((varsOf x.terms).map AV.str) false) []) (hv:(varsOf x.terms).map AV.str=[]):EN 119 (regOf Tryz.f47 100) (Z2ed ks rn bd bo i L rv out nm hd x) (Z2ed ks rn bd bo i L rv out nm hd x):=by
 exact gE ⟨rfl,rfl⟩ 0 [.call (.seq (List.map AV.str (varsOf (Li.terms x))) false) [] [],.is false] [0,6,10,11,12,13] [(100000,.keep 100000 false),(100001,.keep 100001 true),(143,.keep 143 true),(10,.keep 10 false),(45007,.keep 45007 true),(13,.keep 13 true)] (aC6 k52 (show True∧List.map AV.str (varsOf (Li.terms x))=[] from by simp at*;omega) (show noIdsL (L.map adA)=true∧noIdsL (ixs L.length)=true from by simp) (show noIdsL (ks.map AV.str)=true from by simp) (show noIdsL (bd.map Li.av)=true from by simp) rT)
theorem r47jr (L:List Ad) (rn:List ByteArray) (rv:List AV) (out:List Ru) (nm:ByteArray) (hd:List Ar) (bd bo:List Li) (ks:List ByteArray) (i:Nat) (x:Li) (k52:Sp 52 [x.av] [] (.seq ((varsOf x.terms).map AV.str) false) []) (hc:True∧(0:Nat)=0∧(ks.map AV.str).length=(ks.map AV.str).length∧(∀e,e∈(varsOf x.terms).map AV.str→okE 1 e)∧(∀e,e∈ks.map AV.str→okE 1 e)∧(((ks.map AV.str).length+((varsOf x.terms).map AV.str).length:Nat):Int)*16≤140737488355328∧(ks.map AV.str).length+((varsOf x.terms).map AV.str).length≤9223372036854775807):EN 119 (regOf Tryz.f47 100) (Z2ed ks rn bd bo i L rv out nm hd x) ⟨[Z2e0,(6,.row 143 0 ((ks.map AV.str).length+((varsOf x.terms).map AV.str).length)),Z2e2,(11,.row 45007 0 (bd.map Li.av).length),Z2e3 i,Z2e4],[Z2e5 L rn rv out,Z2e6 L,(143,.row 1 (ks.map AV.str++(varsOf x.terms).map AV.str)),Z2e9 nm hd bo,Z2e7 bd,Z2e8 x]⟩:=by
 exact gE ⟨rfl,rfl⟩ 0 [.call (.seq (List.map AV.str (varsOf (Li.terms x))) false) [] [],.is true] [0,6,10,11,12,13] [(100000,.keep 100000 false),(100001,.keep 100001 true),(103,.keep 143 true),(10,.keep 10 false),(45007,.keep 45007 true),(13,.keep 13 true)] (aC6 k52 hc (show noIdsL (L.map adA)=true∧noIdsL (ixs L.length)=true from by simp) (show noIdsL (List.map AV.str ks++List.map AV.str (varsOf (Li.terms x)))=true from by simp) (show noIdsL (bd.map Li.av)=true from by simp) rT)
theorem r47kr (L:List Ad) (rn:List ByteArray) (rv:List AV) (out:List Ru) (nm:ByteArray) (hd:List Ar) (bd bo:List Li) (ks:List ByteArray) (i:Nat) (x:Li) (hi:i<bd.length) (hsm:bd.length≤1000):EN 119 (regOf Tryz.f47 104) (Z2ed ks rn bd bo i L rv out nm hd x) ⟨[Z2e0,(6,.row 143 0 (ks.map AV.str).length),Z2e2,(11,.row 45007 0 ((bd.eraseIdx i).map Li.av).length)],[Z2e5 L rn rv out,Z2e6 L,Z2ea ks,Z2e9 nm hd bo,(45007,.row 16 ((bd.eraseIdx i).map Li.av))]⟩:=by
 have hs0:=k85 bd i (by assumption) (by assumption)
 exact gE ⟨rfl,rfl⟩ 0 [.call (.row 45007 0 (List.length (List.map Li.av (List.eraseIdx bd i)))) [45007] [(45007,.row 16 (List.map Li.av (List.eraseIdx bd i)))]] [0,6,10,11] [(100000,.keep 100000 false),(100001,.keep 100001 true),(143,.keep 143 true),(10,.keep 10 false),(45007,.keep 45007 true)] (aC5 (show IntKind.wrap .i64 ((i:Int)+1)=(i:Int)+1 from wrap64_id (by omega) (by omega)) hs0 (show noIdsL (L.map adA)=true∧noIdsL (ixs L.length)=true from by simp) (show noIdsL (ks.map AV.str)=true from by simp) (show noIdsL (List.map Li.av (List.eraseIdx bd i))=true from by simp))
theorem h47n (L:List Ad) (rn:List ByteArray) (rv:List AV) (out:List Ru) (nm:ByteArray) (hd:List Ar) (bd bo:List Li) (hne:0<bd.length):EN 119 (fstC (loopOf Tryz.f47 1)) ⟨[Z2e0,Z2e1,Z2e2,(11,.row 45007 0 (bd.map Li.av).length)],[Z2e5 L rn rv out,Z2e6 L,Z2e9 nm hd bo,Z2e7 bd]⟩ ⟨[Z2e0,Z2e1,Z2e2,(11,.row 45007 0 (bd.map Li.av).length)],[Z2e5 L rn rv out,Z2e6 L,Z2e9 nm hd bo,Z2e7 bd]⟩:=by
 exact gE ⟨rfl,rfl⟩ 0 [.is true] [0,6,10,11] [(100000,.keep 100000 false),(100001,.keep 100001 true),(10,.keep 10 false),(45007,.keep 45007 true)] (aC3 (show decide (0<(↑(bd.map Li.av).length:Int))=true from by simp;omega) (show noIdsL (L.map adA)=true∧noIdsL (ixs L.length)=true from by simp) (show noIdsL (bd.map Li.av)=true from by simp))
abbrev Z2eb:Nat×Ob:=(45007,.row 16 (([]:List Li).map Li.av))
theorem z47n (L:List Ad) (rn:List ByteArray) (rv:List AV) (out:List Ru) (nm:ByteArray) (hd:List Ar) (bd bo:List Li):En 119 (loopOf Tryz.f47 1) ⟨[Z2e0,Z2e1,Z2e2,(11,.row 45007 0 (([]:List Li).map Li.av).length)],[Z2e5 L rn rv out,Z2e6 L,Z2e9 nm hd bo,Z2eb]⟩ (fun e t=>e= .exit 2∧t=⟨[Z2e0,Z2e2],[Z2e5 L rn rv out,Z2e6 L,Z2e9 nm hd bo]⟩):=by
 exact gE ⟨rfl,rfl⟩ 0 [.is false] [0,10] [(100000,.keep 100000 false),(100001,.keep 100001 true),(10,.keep 10 false)] (aC2 (show false=false from rfl) (show noIdsL (L.map adA)=true∧noIdsL (ixs L.length)=true from by simp))
abbrev Z2eg (ks:List ByteArray) (bd:List Li):List (Nat×AV):=[Z2e0,(6,.row 143 0 (ks.map AV.str).length),Z2e2,(11,.row 45007 0 (bd.map Li.av).length)]
theorem h47r (L:List Ad) (rn:List ByteArray) (rv:List AV) (out:List Ru) (nm:ByteArray) (hd:List Ar) (bd bo:List Li) (ks:List ByteArray) (hne:0<bd.length):EN 119 (fstC (loopOf Tryz.f47 1)) ⟨(Z2eg ks bd),[Z2e5 L rn rv out,Z2e6 L,Z2ea ks,Z2e9 nm hd bo,Z2e7 bd]⟩ ⟨(Z2eg ks bd),[Z2e5 L rn rv out,Z2e6 L,Z2ea ks,Z2e9 nm hd bo,Z2e7 bd]⟩:=by
 exact gE ⟨rfl,rfl⟩ 0 [.is true] [0,6,10,11] [(100000,.keep 100000 false),(100001,.keep 100001 true),(143,.keep 143 true),(10,.keep 10 false),(45007,.keep 45007 true)] (aC4 (show decide (0<(↑(bd.map Li.av).length:Int))=true from by simp;omega) (show noIdsL (L.map adA)=true∧noIdsL (ixs L.length)=true from by simp) (show noIdsL (ks.map AV.str)=true from by simp) (show noIdsL (bd.map Li.av)=true from by simp))
theorem z47r (L:List Ad) (rn:List ByteArray) (rv:List AV) (out:List Ru) (nm:ByteArray) (hd:List Ar) (bd bo:List Li) (ks:List ByteArray):En 119 (loopOf Tryz.f47 1) ⟨[Z2e0,(6,.row 143 0 (ks.map AV.str).length),Z2e2,(11,.row 45007 0 (([]:List Li).map Li.av).length)],[Z2e5 L rn rv out,Z2e6 L,Z2ea ks,Z2e9 nm hd bo,Z2eb]⟩ (fun e t=>e= .exit 2∧t=⟨[Z2e0,Z2e2],[Z2e5 L rn rv out,Z2e6 L,Z2e9 nm hd bo]⟩):=by
 exact gE ⟨rfl,rfl⟩ 0 [.is false] [0,10] [(100000,.keep 100000 false),(100001,.keep 100001 true),(10,.keep 10 false)] (aC2 (show false=false from rfl) (show noIdsL (L.map adA)=true∧noIdsL (ixs L.length)=true from by simp))
theorem Runs.blk {P:Program} {n i:Nat} {c:Code} {st st':St} (h:Runs P n c st .normal st'):Runs P n (.block i c) st .normal st':=fun F a w x=>by
 refine wp_block (wp_mono (h F a w x) fun e' a' w' ⟨h1,h2⟩=> ?_)
 subst h1
 exact ⟨rfl,h2⟩
theorem turnC47 {S0 S1 S2 S3 S4 S5 S6 S7:St} (h:Rz 119 (fstC (loopOf Tryz.f47 1)) S0 .normal S0) (h0:Rz 119 (regOf Tryz.f47 57) S0 .normal S1) (h1:Rz 119 (regOf Tryz.f47 60) S1 .normal S2) (h2:Rz 119 (regOf Tryz.f47 65) S2 .normal S3) (h3:Rz 119 (condOf Tryz.f47 79) S3 .normal S4) (h4:Rz 119 (regOf Tryz.f47 94) S4 .normal S5) (h5:Rz 119 (regOf Tryz.f47 100) S5 .normal S6) (h6:Rz 119 (regOf Tryz.f47 104) S6 .normal S7):
  Rz 119 (loopOf Tryz.f47 1) S0 .normal S7:=by
 have e:sndC (loopOf Tryz.f47 1)= .block 3 (.seq (regOf Tryz.f47 57) (.seq (regOf Tryz.f47 60) (.seq (.seq (regOf Tryz.f47 65) (condOf Tryz.f47 79)) (.seq (regOf Tryz.f47 94) (.seq (regOf Tryz.f47 100) (regOf Tryz.f47 104)))))):=by kernel_rfl
 refine Runs.cut (by kernel_rfl) h ?_
 rw [e]
 exact (h0.seq (h1.seq ((h2.seq h3).seq (h4.seq (h5.seq h6))))).blk
def kW:List ByteArray→AV
 |[]=> .seq [] true
 |x::r=> .row 143 0 ((x::r).map AV.str).length
abbrev Z2f0:Nat×AV:=(0,.elt 100000 0 0)
abbrev Z2f1:Nat×AV:=(10,.elt 10 0 0)
abbrev Z2f2 (nm:ByteArray) (hd:List Ar) (bo:List Li):Nat×Ob:=(10,.var [.str nm,.seq (hd.map Ar.av) false,.own 16 (bo.map Li.av)])
abbrev Z2f3 (bd:List Li):Nat×Ob:=(45007,.row 16 (bd.map Li.av))
def s47 (L:List Ad) (rn:List ByteArray) (rv:List AV) (out:List Ru) (nm:ByteArray) (hd:List Ar) (bd bo:List Li) (ks:List ByteArray) (env:List (Nat×AV)) (hp:List (Nat×Ob)):St:=
 ⟨[Z2f0,(6,kW ks),Z2f1,(11,.row 45007 0 (bd.map Li.av).length)]++env,wp L (rn.map AV.str) rv out++(kP ks++([Z2f2 nm hd bo,Z2f3 bd]++hp))⟩
abbrev Z2f4:Nat×AV:=(6,.seq [] true)
abbrev Z2f5 (i:Nat):Nat×AV:=(12,.int .i64 (i:Int))
abbrev Z2f6:Nat×AV:=(13,.elt 13 0 0)
abbrev Z2f7 (L:List Ad) (rn:List ByteArray) (rv:List AV) (out:List Ru):Nat×Ob:=(100000,.var [.own 2 (L.map adA),.map 100001,.tmap (rn.map AV.str) rv,.own 3 (out.map Ru.av)])
abbrev Z2f8 (L:List Ad):Nat×Ob:=(100001,.map (L.map adA) (ixs L.length))
abbrev Z2f9 (x:Li):Nat×Ob:=(13,.var x.cells)
abbrev Z2fa (nm:ByteArray) (hd:List Ar) (es:List AV):Nat×Ob:=(10,.var [.str nm,.seq (hd.map Ar.av) false,.row 98 0 es.length])
abbrev Z2fc (bd:List Li) (i:Nat):List (Nat×AV):=[Z2f0,Z2f4,Z2f1,(11,.row 45007 0 (bd.map Li.av).length),Z2f5 i,Z2f6]
theorem own47n (L:List Ad) (rn:List ByteArray) (rv:List AV) (out:List Ru) (nm:ByteArray) (hd:List Ar) (bd bo:List Li) (i:Nat) (x:Li) (hbl:bo.length<1000000):Rz 119 (regOf Tryz.f47 94) ⟨(Z2fc bd i),[Z2f7 L rn rv out,Z2f8 L,Z2f2 nm hd bo,Z2f3 bd,Z2f9 x]⟩ .normal ⟨(Z2fc bd i),[Z2f7 L rn rv out,Z2f8 L,(10,.var [.str nm,.seq (hd.map Ar.av) false,.own 16 ((bo++[x]).map Li.av)]),Z2f3 bd,Z2f9 x]⟩:=by
 have cl:∀(es:List AV),0<es.length→noIdsL es=true→∀{s:St},Rz 119 (regOf Tryz.f47 94) s .normal ⟨(Z2fc bd i),[Z2f7 L rn rv out,Z2f8 L,Z2fa nm hd es,Z2f3 bd,Z2f9 x,(98,.row 16 es)]⟩→Rz 119 (regOf Tryz.f47 94) s .normal ⟨(Z2fc bd i),[Z2f7 L rn rv out,Z2f8 L,(10,.var [.str nm,.seq (hd.map Ar.av) false,.own 16 es]),Z2f3 bd,Z2f9 x]⟩:=by
  intro es h0 h1 s h
  have ht:es.take es.length=es:=List.take_length
  have b:=h.post (le_close (n:=119) (st:=⟨(Z2fc bd i),[Z2f7 L rn rv out,Z2f8 L,Z2fa nm hd es,Z2f3 bd,Z2f9 x,(98,.row 16 es)]⟩) 10 2 98 (o:= .var [.str nm,.seq (hd.map Ar.av) false,.row 98 0 es.length]) rfl rfl rfl h0 (Nat.le_refl _) (by rw [ht];exact h1) (by simp [mid]))
  rw [ht] at b
  exact b.keepR [0,6,10,11,12,13] [(100000,.keep 100000 false),(100001,.keep 100001 true),(10,.keep 10 false),(45007,.keep 45007 true),(13,.keep 13 true)] (cs:=[noIdsL (L.map adA)=true∧noIdsL (ixs L.length)=true,noIdsL (bd.map Li.av)=true,noIdsL x.cells=true]) rfl ⟨⟨noIdsL_ads L,noIdsL_ixs _⟩,noIdsL_lis bd,noIds_li x,trivial⟩
 rw [show (bo++[x]).map Li.av=bo.map Li.av++[x.av] from by simp]
 by_cases hn:bo=[]
 ·subst hn
  obtain ⟨e,t,⟨rfl,rfl⟩,h⟩:=r47hnn L rn rv out nm hd bd [] i x
  exact (cl [x.av] (by simp) (noIdsL_lis [x]) h).pre (le_openNil (st:=⟨(Z2fc bd i),[Z2f7 L rn rv out,Z2f8 L,(10,.var [.str nm,.seq (hd.map Ar.av) false,.own 16 []]),Z2f3 bd,Z2f9 x]⟩) 10 2 (sz:=16) rfl rfl)
 ·obtain ⟨e,t,⟨rfl,rfl⟩,h⟩:=r47hnr L rn rv out nm hd bd bo i x (ok_lis bo) hbl
  rw [show (bo.map Li.av).length+1=(bo.map Li.av++[x.av]).length from by simp] at h
  exact (cl _ (by simp) (by rw [noIdsL_app,noIdsL_lis];exact noIdsL_lis [x]) h).pre (le_open (st:=⟨(Z2fc bd i),[Z2f7 L rn rv out,Z2f8 L,Z2f2 nm hd bo,Z2f3 bd,Z2f9 x]⟩) 10 2 298 (sz:=16) rfl rfl (by simpa using hn) rfl (by simp [mid]))
abbrev Z2fb (ks:List ByteArray):Nat×Ob:=(143,.row 1 (ks.map AV.str))
abbrev Z2fd (ks:List ByteArray) (bd:List Li) (i:Nat):List (Nat×AV):=[Z2f0,(6,.row 143 0 (ks.map AV.str).length),Z2f1,(11,.row 45007 0 (bd.map Li.av).length),Z2f5 i,Z2f6]
theorem own47r (L:List Ad) (rn:List ByteArray) (rv:List AV) (out:List Ru) (nm:ByteArray) (hd:List Ar) (bd bo:List Li) (ks:List ByteArray) (i:Nat) (x:Li) (hbl:bo.length<1000000):Rz 119 (regOf Tryz.f47 94) ⟨(Z2fd ks bd i),[Z2f7 L rn rv out,Z2f8 L,Z2fb ks,Z2f2 nm hd bo,Z2f3 bd,Z2f9 x]⟩ .normal ⟨(Z2fd ks bd i),[Z2f7 L rn rv out,Z2f8 L,Z2fb ks,(10,.var [.str nm,.seq (hd.map Ar.av) false,.own 16 ((bo++[x]).map Li.av)]),Z2f3 bd,Z2f9 x]⟩:=by
 have cl:∀(es:List AV),0<es.length→noIdsL es=true→∀{s:St},Rz 119 (regOf Tryz.f47 94) s .normal ⟨(Z2fd ks bd i),[Z2f7 L rn rv out,Z2f8 L,Z2fb ks,Z2fa nm hd es,Z2f3 bd,Z2f9 x,(98,.row 16 es)]⟩→Rz 119 (regOf Tryz.f47 94) s .normal ⟨(Z2fd ks bd i),[Z2f7 L rn rv out,Z2f8 L,Z2fb ks,(10,.var [.str nm,.seq (hd.map Ar.av) false,.own 16 es]),Z2f3 bd,Z2f9 x]⟩:=by
  intro es h0 h1 s h
  have ht:es.take es.length=es:=List.take_length
  have b:=h.post (le_close (n:=119) (st:=⟨(Z2fd ks bd i),[Z2f7 L rn rv out,Z2f8 L,Z2fb ks,Z2fa nm hd es,Z2f3 bd,Z2f9 x,(98,.row 16 es)]⟩) 10 2 98 (o:= .var [.str nm,.seq (hd.map Ar.av) false,.row 98 0 es.length]) rfl rfl rfl h0 (Nat.le_refl _) (by rw [ht];exact h1) (by simp [mid]))
  rw [ht] at b
  exact b.keepR [0,6,10,11,12,13] [(100000,.keep 100000 false),(100001,.keep 100001 true),(143,.keep 143 true),(10,.keep 10 false),(45007,.keep 45007 true),(13,.keep 13 true)] (cs:=[noIdsL (L.map adA)=true∧noIdsL (ixs L.length)=true,noIdsL (ks.map AV.str)=true,noIdsL (bd.map Li.av)=true,noIdsL x.cells=true]) rfl ⟨⟨noIdsL_ads L,noIdsL_ixs _⟩,noIdsL_strs ks,noIdsL_lis bd,noIds_li x,trivial⟩
 rw [show (bo++[x]).map Li.av=bo.map Li.av++[x.av] from by simp]
 by_cases hn:bo=[]
 ·subst hn
  obtain ⟨e,t,⟨rfl,rfl⟩,h⟩:=r47hrn L rn rv out nm hd bd [] ks i x
  exact (cl [x.av] (by simp) (noIdsL_lis [x]) h).pre (le_openNil (st:=⟨(Z2fd ks bd i),[Z2f7 L rn rv out,Z2f8 L,Z2fb ks,(10,.var [.str nm,.seq (hd.map Ar.av) false,.own 16 []]),Z2f3 bd,Z2f9 x]⟩) 10 2 (sz:=16) rfl rfl)
 ·obtain ⟨e,t,⟨rfl,rfl⟩,h⟩:=r47hrr L rn rv out nm hd bd bo ks i x (ok_lis bo) hbl
  rw [show (bo.map Li.av).length+1=(bo.map Li.av++[x.av]).length from by simp] at h
  exact (cl _ (by simp) (by rw [noIdsL_app,noIdsL_lis];exact noIdsL_lis [x]) h).pre (le_open (st:=⟨(Z2fd ks bd i),[Z2f7 L rn rv out,Z2f8 L,Z2fb ks,Z2f2 nm hd bo,Z2f3 bd,Z2f9 x]⟩) 10 2 298 (sz:=16) rfl rfl (by simpa using hn) rfl (by simp [mid]))
theorem patT_size (ts:List Tm) (ks:List ByteArray):(patT ts ks).size=ts.length:=by simp [patT,ByteArray.size]
def RV (rn:List ByteArray) (rv:List AV):Prop:=∀j,j<rn.length→∃es,rv[j]? =some (.seq es false)∧0<es.length
theorem len_li {x:Li} (h:x.terms.length<1000):x.ts.length<1000:=by
 unfold Li.terms at h
 simp only [List.length_append] at h
 omega
theorem ok_str {l:List ByteArray}:∀e,e∈l.map AV.str→okE 1 e:=okE_strs l
abbrev Z2g0 (bd:List Li):Nat×Ob:=(45007,.row 16 (bd.map Li.av))
abbrev Z2g1:Nat×AV:=(0,.elt 100000 0 0)
abbrev Z2g2:Nat×AV:=(10,.elt 10 0 0)
abbrev Z2g3 (i:Nat):Nat×AV:=(12,.int .i64 (i:Int))
abbrev Z2g4:Nat×AV:=(13,.elt 13 0 0)
abbrev Z2g5 (nm:ByteArray) (hd:List Ar) (bo:List Li):Nat×Ob:=(10,.var [.str nm,.seq (hd.map Ar.av) false,.own 16 (bo.map Li.av)])
abbrev Z2g6 (bd:List Li) (i:Nat):List (Nat×AV):=[Z2g1,(6,.seq [] true),Z2g2,(11,.row 45007 0 (bd.map Li.av).length),Z2g3 i,Z2g4]
theorem fin47n (L:List Ad) (rn:List ByteArray) (rv:List AV) (out:List Ru) (nm:ByteArray) (hd:List Ar) (bd bo:List Li) (i:Nat) (x:Li) (L2:List Ad) (x2:Li) (S3:St) (ht:x2.terms=x.terms) (hx:bd[i]? =some x) (hsm:bd.length≤1000) (hT:tinyB bd) (hbl:bo.length<1000000) (hks:([]:List ByteArray).length<100000)
  (k83:Sp 83 [.row 45007 0 (bd.map Li.av).length,.seq [] true] [Z2g0 bd] (.int .i64 (i:Int)) [])
  (h2:Rz 119 (regOf Tryz.f47 65) ⟨(Z2g6 bd i),[(100000,.var [.own 2 (L.map adA),.map 100001,.tmap (rn.map AV.str) rv,.own 3 (out.map Ru.av)]),(100001,.map (L.map adA) (ixs L.length)),Z2g5 nm hd bo,Z2g0 bd,(13,.var x.cells)]⟩ .normal S3) (h3:Rz 119 (condOf Tryz.f47 79) S3 .normal ⟨(Z2g6 bd i),[(100000,.var [.own 2 (L2.map adA),.map 100001,.tmap (rn.map AV.str) rv,.own 3 (out.map Ru.av)]),(100001,.map (L2.map adA) (ixs L2.length)),Z2g5 nm hd bo,Z2g0 bd,(13,.var x2.cells)]⟩):
  Rz 119 (loopOf Tryz.f47 1) (s47 L rn rv out nm hd bd bo ([]:List ByteArray) [] []) .normal (s47 L2 rn rv out nm hd (bd.eraseIdx i) (bo++[x2]) (([]:List ByteArray)++varsOf x.terms) [] []):=by
 have hi:=(List.getElem?_eq_some_iff.1 hx).1
 have hxm:=List.mem_of_getElem? hx
 have hTx:=hT x hxm
 have hav:(bd.map Li.av)[0+Int.toNat (i:Int)]? =some x.av:=by rw [Nat.zero_add,Int.toNat_natCast,List.getElem?_map,hx];rfl
 obtain ⟨e,t,⟨rfl,rfl⟩,h⟩:=h47n L rn rv out nm hd bd bo (by omega)
 obtain ⟨e,t,⟨rfl,rfl⟩,h0⟩:=r47an L rn rv out nm hd bd bo i k83
 obtain ⟨e,t,⟨rfl,rfl⟩,h1⟩:=r47bn L rn rv out nm hd bd bo i x hav hi (by omega)
 have h4:=own47n L2 rn rv out nm hd bd bo i x2 hbl
 have k52':Sp 52 [x2.av] [] (.seq ((varsOf x2.terms).map .str) false) []:=k52 x2 (by rw [ht];omega)
 have hvl:(varsOf x2.terms).length<1000:=by rw [ht];omega
 rw [←ht]
 by_cases hv:varsOf x2.terms=[]
 ·obtain ⟨e,t,⟨rfl,rfl⟩,h5⟩:=r47in L2 rn rv out nm hd bd (bo++[x2]) i x2 k52' (by rw [hv];rfl)
  obtain ⟨e,t,⟨rfl,rfl⟩,h6⟩:=r47kn L2 rn rv out nm hd bd (bo++[x2]) i x2 hi hsm
  rw [hv,List.append_nil]
  exact turnC47 h h0 h1 h2 h3 h4 h5 h6
 ·obtain ⟨e,t,⟨rfl,rfl⟩,h5⟩:=r47jn L2 rn rv out nm hd bd (bo++[x2]) i x2 k52' ⟨trivial,by simpa using hv,ok_str,by simp,by simp;omega,by simp;omega⟩
  obtain ⟨e,t,⟨rfl,rfl⟩,h6⟩:=r47kr L2 rn rv out nm hd bd (bo++[x2]) (varsOf x2.terms) i x2 hi hsm
  rw [show List.length ([]:List AV)+((varsOf x2.terms).map AV.str).length=((varsOf x2.terms).map AV.str).length from by simp,List.nil_append] at h5
  have r:=turnC47 h h0 h1 h2 h3 h4 h5 h6
  rw [List.nil_append]
  revert r
  generalize varsOf x2.terms=vs at hv
  intro r
  cases vs with
  |nil=>exact absurd rfl hv
  |cons y q=>exact r
theorem turn47n (L:List Ad) (rn:List ByteArray) (rv:List AV) (out:List Ru) (nm:ByteArray) (hd:List Ar) (bd bo:List Li) (hrv:RV rn rv) (hne:bd≠[]) (hsm:bd.length≤1000) (hT:tinyB bd) (hn:∀y,y∈bd→(y.k=1∨y.k=2)→y.p.size≤120) (hbl:bo.length<1000000) (hks:([]:List ByteArray).length<100000) (hL:L.length<1000000):
  ∃(i:Nat) (x:Li),bd[i]? =some x∧((¬(x.k=1∧x.p∈rn)∧Rz 119 (loopOf Tryz.f47 1) (s47 L rn rv out nm hd bd bo ([]:List ByteArray) [] []) .normal (s47 L rn rv out nm hd (bd.eraseIdx i) (bo++[x]) (([]:List ByteArray)++varsOf x.terms) [] []))∨
   (x.k=1∧x.p∈rn∧Rz 119 (loopOf Tryz.f47 1) (s47 L rn rv out nm hd bd bo ([]:List ByteArray) [] []) .normal (s47 (meetL L (x.p,patT x.ts ([]:List ByteArray))) rn rv out nm hd (bd.eraseIdx i) (bo++[({x with p:=nameT x.p (patT x.ts ([]:List ByteArray))}:Li)]) (([]:List ByteArray)++varsOf x.terms) [] []))):=by
 obtain ⟨i,hi,sp⟩:=n83 bd hne hsm hT
 have hx:bd[i]? =some bd[i]:=List.getElem?_eq_getElem hi
 refine ⟨i,bd[i],hx,?_⟩
 generalize bd[i]=x at hx
 have hxm:=List.mem_of_getElem? hx
 have hts:=len_li (hT x hxm).1
 by_cases hk:x.k=1
 ·by_cases hp:x.p∈rn
  ·obtain ⟨j,hf,hj⟩:=findA_some (i:=0) hp
   rw [Nat.zero_add] at hf
   obtain ⟨es,h5,h6⟩:=hrv j (List.getElem?_eq_some_iff.1 hj).1
   obtain ⟨e,t,⟨rfl,rfl⟩,h2⟩:=r47en L rn rv out nm hd bd bo i x es (decide_eq_true (by omega)) (decide_eq_true hk) ⟨j,hf,h5⟩
   obtain ⟨e,t,⟨rfl,rfl⟩,h3⟩:=r47gn L rn rv out nm hd bd bo i x hL (by have:=hn x hxm (.inl hk);omega) (by omega) (by rw [patT_size];omega)
   exact .inr ⟨hk,hp,fin47n L rn rv out nm hd bd bo i x (meetL L (x.p,patT x.ts [])) {x with p:=nameT x.p (patT x.ts [])} _ rfl hx hsm hT hbl hks sp h2 h3⟩
  ·obtain ⟨e,t,⟨rfl,rfl⟩,h2⟩:=r47dn L rn rv out nm hd bd bo i x (decide_eq_true hk) (findA_none hp)
   obtain ⟨e,t,⟨rfl,rfl⟩,h3⟩:=r47fn L rn rv out nm hd bd bo i x
   exact .inl ⟨fun h=>hp h.2,fin47n L rn rv out nm hd bd bo i x L x _ rfl hx hsm hT hbl hks sp h2 h3⟩
 ·obtain ⟨e,t,⟨rfl,rfl⟩,h2⟩:=r47cn L rn rv out nm hd bd bo i x (decide_eq_false hk)
  obtain ⟨e,t,⟨rfl,rfl⟩,h3⟩:=r47fn L rn rv out nm hd bd bo i x
  exact .inl ⟨fun h=>hk h.1,fin47n L rn rv out nm hd bd bo i x L x _ rfl hx hsm hT hbl hks sp h2 h3⟩
theorem fin47r (L:List Ad) (rn:List ByteArray) (rv:List AV) (out:List Ru) (nm:ByteArray) (hd:List Ar) (bd bo:List Li) (i:Nat) (x:Li) (k0:ByteArray) (kr:List ByteArray) (L2:List Ad) (x2:Li) (S3:St) (ht:x2.terms=x.terms) (hx:bd[i]? =some x) (hsm:bd.length≤1000) (hT:tinyB bd) (hbl:bo.length<1000000) (hks:(k0::kr).length<100000)
  (k83:Sp 83 [.row 45007 0 (bd.map Li.av).length,.row 143 0 ((k0::kr).map AV.str).length] [Z2g0 bd,(143,.row 1 ((k0::kr).map AV.str))] (.int .i64 (i:Int)) [])
  (h2:Rz 119 (regOf Tryz.f47 65) ⟨[Z2g1,(6,.row 143 0 ((k0::kr).map AV.str).length),Z2g2,(11,.row 45007 0 (bd.map Li.av).length),Z2g3 i,Z2g4],[(100000,.var [.own 2 (L.map adA),.map 100001,.tmap (rn.map AV.str) rv,.own 3 (out.map Ru.av)]),(100001,.map (L.map adA) (ixs L.length)),(143,.row 1 ((k0::kr).map AV.str)),Z2g5 nm hd bo,Z2g0 bd,(13,.var x.cells)]⟩ .normal S3) (h3:Rz 119 (condOf Tryz.f47 79) S3 .normal ⟨[Z2g1,(6,.row 143 0 ((k0::kr).map AV.str).length),Z2g2,(11,.row 45007 0 (bd.map Li.av).length),Z2g3 i,Z2g4],[(100000,.var [.own 2 (L2.map adA),.map 100001,.tmap (rn.map AV.str) rv,.own 3 (out.map Ru.av)]),(100001,.map (L2.map adA) (ixs L2.length)),(143,.row 1 ((k0::kr).map AV.str)),Z2g5 nm hd bo,Z2g0 bd,(13,.var x2.cells)]⟩):
  Rz 119 (loopOf Tryz.f47 1) (s47 L rn rv out nm hd bd bo (k0::kr) [] []) .normal (s47 L2 rn rv out nm hd (bd.eraseIdx i) (bo++[x2]) ((k0::kr)++varsOf x.terms) [] []):=by
 have hi:=(List.getElem?_eq_some_iff.1 hx).1
 have hxm:=List.mem_of_getElem? hx
 have hTx:=hT x hxm
 have hav:(bd.map Li.av)[0+Int.toNat (i:Int)]? =some x.av:=by rw [Nat.zero_add,Int.toNat_natCast,List.getElem?_map,hx];rfl
 obtain ⟨e,t,⟨rfl,rfl⟩,h⟩:=h47r L rn rv out nm hd bd bo (k0::kr) (by omega)
 obtain ⟨e,t,⟨rfl,rfl⟩,h0⟩:=r47ar L rn rv out nm hd bd bo (k0::kr) i k83
 obtain ⟨e,t,⟨rfl,rfl⟩,h1⟩:=r47br L rn rv out nm hd bd bo (k0::kr) i x hav hi (by omega)
 have h4:=own47r L2 rn rv out nm hd bd bo (k0::kr) i x2 hbl
 have k52':Sp 52 [x2.av] [] (.seq ((varsOf x2.terms).map .str) false) []:=k52 x2 (by rw [ht];omega)
 have hvl:(varsOf x2.terms).length<1000:=by rw [ht];omega
 rw [←ht]
 by_cases hv:varsOf x2.terms=[]
 ·obtain ⟨e,t,⟨rfl,rfl⟩,h5⟩:=r47ir L2 rn rv out nm hd bd (bo++[x2]) (k0::kr) i x2 k52' (by rw [hv];rfl)
  obtain ⟨e,t,⟨rfl,rfl⟩,h6⟩:=r47kr L2 rn rv out nm hd bd (bo++[x2]) (k0::kr) i x2 hi hsm
  rw [hv,List.append_nil]
  exact turnC47 h h0 h1 h2 h3 h4 h5 h6
 ·obtain ⟨e,t,⟨rfl,rfl⟩,h5⟩:=r47jr L2 rn rv out nm hd bd (bo++[x2]) (k0::kr) i x2 k52' ⟨trivial,rfl,rfl,ok_str,ok_str,by simp only [List.length_map];omega,by simp only [List.length_map];omega⟩
  obtain ⟨e,t,⟨rfl,rfl⟩,h6⟩:=r47kr L2 rn rv out nm hd bd (bo++[x2]) ((k0::kr)++varsOf x2.terms) i x2 hi hsm
  rw [show ((k0::kr).map AV.str).length+((varsOf x2.terms).map AV.str).length=(((k0::kr)++varsOf x2.terms).map AV.str).length from by simp only [List.length_map,List.length_append],←List.map_append] at h5
  exact turnC47 h h0 h1 h2 h3 h4 h5 h6
theorem turn47r (L:List Ad) (rn:List ByteArray) (rv:List AV) (out:List Ru) (nm:ByteArray) (hd:List Ar) (bd bo:List Li) (k0:ByteArray) (kr:List ByteArray) (hrv:RV rn rv) (hne:bd≠[]) (hsm:bd.length≤1000) (hT:tinyB bd) (hn:∀y,y∈bd→(y.k=1∨y.k=2)→y.p.size≤120) (hbl:bo.length<1000000) (hks:(k0::kr).length<100000) (hL:L.length<1000000):
  ∃(i:Nat) (x:Li),bd[i]? =some x∧((¬(x.k=1∧x.p∈rn)∧Rz 119 (loopOf Tryz.f47 1) (s47 L rn rv out nm hd bd bo (k0::kr) [] []) .normal (s47 L rn rv out nm hd (bd.eraseIdx i) (bo++[x]) ((k0::kr)++varsOf x.terms) [] []))∨
   (x.k=1∧x.p∈rn∧Rz 119 (loopOf Tryz.f47 1) (s47 L rn rv out nm hd bd bo (k0::kr) [] []) .normal (s47 (meetL L (x.p,patT x.ts (k0::kr))) rn rv out nm hd (bd.eraseIdx i) (bo++[({x with p:=nameT x.p (patT x.ts (k0::kr))}:Li)]) ((k0::kr)++varsOf x.terms) [] []))):=by
 obtain ⟨i,hi,sp⟩:=k83b bd (k0::kr) hne (by omega) hsm hT
 have hx:bd[i]? =some bd[i]:=List.getElem?_eq_getElem hi
 refine ⟨i,bd[i],hx,?_⟩
 generalize bd[i]=x at hx
 have hxm:=List.mem_of_getElem? hx
 have hts:=len_li (hT x hxm).1
 by_cases hk:x.k=1
 ·by_cases hp:x.p∈rn
  ·obtain ⟨j,hf,hj⟩:=findA_some (i:=0) hp
   rw [Nat.zero_add] at hf
   obtain ⟨es,h5,h6⟩:=hrv j (List.getElem?_eq_some_iff.1 hj).1
   obtain ⟨e,t,⟨rfl,rfl⟩,h2⟩:=r47er L rn rv out nm hd bd bo (k0::kr) i x es (decide_eq_true (by omega)) (decide_eq_true hk) ⟨j,hf,h5⟩
   obtain ⟨e,t,⟨rfl,rfl⟩,h3⟩:=r47gr L rn rv out nm hd bd bo (k0::kr) (by omega) i x hL (by have:=hn x hxm (.inl hk);omega) (by omega) (by rw [patT_size];omega)
   exact .inr ⟨hk,hp,fin47r L rn rv out nm hd bd bo i x k0 kr (meetL L (x.p,patT x.ts (k0::kr))) {x with p:=nameT x.p (patT x.ts (k0::kr))} _ rfl hx hsm hT hbl hks sp h2 h3⟩
  ·obtain ⟨e,t,⟨rfl,rfl⟩,h2⟩:=r47dr L rn rv out nm hd bd bo (k0::kr) i x (decide_eq_true hk) (findA_none hp)
   obtain ⟨e,t,⟨rfl,rfl⟩,h3⟩:=r47fr L rn rv out nm hd bd bo (k0::kr) i x
   exact .inl ⟨fun h=>hp h.2,fin47r L rn rv out nm hd bd bo i x k0 kr L x _ rfl hx hsm hT hbl hks sp h2 h3⟩
 ·obtain ⟨e,t,⟨rfl,rfl⟩,h2⟩:=r47cr L rn rv out nm hd bd bo (k0::kr) i x (decide_eq_false hk)
  obtain ⟨e,t,⟨rfl,rfl⟩,h3⟩:=r47fr L rn rv out nm hd bd bo (k0::kr) i x
  exact .inl ⟨fun h=>hk h.1,fin47r L rn rv out nm hd bd bo i x k0 kr L x _ rfl hx hsm hT hbl hks sp h2 h3⟩
inductive Steps (rn:List ByteArray):List Ad→List ByteArray→List Li→List Ad→List Li→Prop where
 |nil (L:List Ad) (ks:List ByteArray):Steps rn L ks [] L []
 |skip {L L':List Ad} {ks:List ByteArray} {rest body:List Li} (i:Nat) (x:Li) (hx:rest[i]? =some x) (hn:¬(x.k=1∧x.p∈rn)) (h:Steps rn L (ks++varsOf x.terms) (rest.eraseIdx i) L' body):Steps rn L ks rest L' (x::body)
 |ask {L L':List Ad} {ks:List ByteArray} {rest body:List Li} (i:Nat) (x:Li) (hx:rest[i]? =some x) (hk:x.k=1) (hp:x.p∈rn) (h:Steps rn (meetL L (x.p,patT x.ts ks)) (ks++varsOf x.terms) (rest.eraseIdx i) L' body):
  Steps rn L ks rest L' (({x with p:=nameT x.p (patT x.ts ks)}:Li)::body)
theorem meetL_len (L:List Ad) (a:Ad):(meetL L a).length≤L.length+1:=by
 unfold meetL
 split
 ·omega
 ·simp
theorem l47_1 (rn:List ByteArray) (rv:List AV) (out:List Ru) (nm:ByteArray) (hd:List Ar) (hrv:RV rn rv):∀(n:Nat) (L:List Ad) (bd bo:List Li) (ks:List ByteArray),bd.length=n→n≤1000→tinyB bd→(∀y,y∈bd→(y.k=1∨y.k=2)→y.p.size≤120)→bo.length+n<1000000→ks.length+n*1000<100000→L.length+n<1000000→
  ∃(L':List Ad) (body:List Li),Steps rn L ks bd L' body∧Lo 119 (loopOf Tryz.f47 1) (s47 L rn rv out nm hd bd bo ks [] []) (.exit 2) ⟨[Z2g1,Z2g2],wp L' (rn.map AV.str) rv out++[(10,.var [.str nm,.seq (hd.map Ar.av) false,.own 16 ((bo++body).map Li.av)])]⟩
 |0,L,bd,bo,ks,h0,_,_,_,_,_,_=>by
  have:bd=[]:=List.eq_nil_of_length_eq_zero h0
  subst this
  refine ⟨L,[],.nil L ks,?_⟩
  rw [List.append_nil]
  cases ks with
  |nil=>
   obtain ⟨e,t,⟨rfl,rfl⟩,h⟩:=z47n L rn rv out nm hd [] bo
   exact .leave h (by simp)
  |cons k0 kr=>
   obtain ⟨e,t,⟨rfl,rfl⟩,h⟩:=z47r L rn rv out nm hd [] bo (k0::kr)
   exact .leave h (by simp)
 |n+1,L,bd,bo,ks,h0,hsm,hT,hn,hbl,hks,hL=>by
  have hne:bd≠[]:=by rintro rfl;simp at h0
  have main:∃(i:Nat) (x:Li),bd[i]? =some x∧((¬(x.k=1∧x.p∈rn)∧Rz 119 (loopOf Tryz.f47 1) (s47 L rn rv out nm hd bd bo ks [] []) .normal (s47 L rn rv out nm hd (bd.eraseIdx i) (bo++[x]) (ks++varsOf x.terms) [] []))∨
   (x.k=1∧x.p∈rn∧Rz 119 (loopOf Tryz.f47 1) (s47 L rn rv out nm hd bd bo ks [] []) .normal (s47 (meetL L (x.p,patT x.ts ks)) rn rv out nm hd (bd.eraseIdx i) (bo++[({x with p:=nameT x.p (patT x.ts ks)}:Li)]) (ks++varsOf x.terms) [] []))):=by
   cases ks with
   |nil=>exact turn47n L rn rv out nm hd bd bo hrv hne (by omega) hT hn (by omega) (by simp) (by omega)
   |cons k0 kr=>exact turn47r L rn rv out nm hd bd bo k0 kr hrv hne (by omega) hT hn (by omega) (by omega) (by omega)
  obtain ⟨i,x,hx,h⟩:=main
  have hi:=(List.getElem?_eq_some_iff.1 hx).1
  have hvl:(varsOf x.terms).length<1000:=(hT x (List.mem_of_getElem? hx)).2.2.2.1
  have hl:(bd.eraseIdx i).length=n:=by rw [List.length_eraseIdx_of_lt hi];omega
  have hsub:∀y,y∈bd.eraseIdx i→y∈bd:=fun y hy=>List.mem_of_mem_eraseIdx hy
  have hkl:(ks++varsOf x.terms).length+n*1000<100000:=by rw [List.length_append];omega
  have hbl':∀z:Li,(bo++[z]).length+n<1000000:=fun z=>by simp;omega
  rcases h with ⟨h1,h⟩|⟨h1,h2,h⟩
  ·obtain ⟨L',body,hs,hL'⟩:=l47_1 rn rv out nm hd hrv n L (bd.eraseIdx i) _ (ks++varsOf x.terms) hl (by omega) (fun y hy=>hT y (hsub y hy)) (fun y hy=>hn y (hsub y hy)) (hbl' x) hkl (by omega)
   refine ⟨L',x::body,.skip i x hx h1 hs,.turn h ?_⟩
   rw [List.append_assoc,List.singleton_append] at hL'
   exact hL'
  ·have hm:=meetL_len L (x.p,patT x.ts ks)
   obtain ⟨L',body,hs,hL'⟩:=l47_1 rn rv out nm hd hrv n (meetL L (x.p,patT x.ts ks)) (bd.eraseIdx i) _ (ks++varsOf x.terms) hl (by omega) (fun y hy=>hT y (hsub y hy)) (fun y hy=>hn y (hsub y hy)) (hbl' {x with p:=nameT x.p (patT x.ts ks)}) hkl (by omega)
   refine ⟨L',_,.ask i x hx h1 h2 hs,.turn h ?_⟩
   rw [List.append_assoc,List.singleton_append] at hL'
   exact hL'
theorem Runs.exitBlk {P:Program} {n i:Nat} {c:Code} {st st':St} (h:Runs P n c st (.exit i) st'):Runs P n (.block i c) st .normal st':=fun F a w x=>by
 refine wp_block (wp_mono (h F a w x) fun e' a' w' ⟨h1,h2⟩=> ?_)
 subst h1
 simp only [Out.x,Exit.inBlock,if_pos trivial]
 exact ⟨trivial,h2⟩
@[simp] theorem noIdsL_rus' (l:List Ru):noIdsL (l.map Ru.av)=true:=noIdsL_of Ru.av noIds_ru l
theorem ok_rus (l:List Ru):∀e,e∈l.map Ru.av→okE 3 e:=fun e he=>by
 obtain ⟨x,_,rfl⟩:=List.mem_map.1 he
 exact ⟨rfl,by simp [Ru.av,AV.cells,solid]⟩
theorem le_wkVar {n:Nat} {st:St} (id:Nat) {cs ds:List AV} (ho:look st.hp id=some (.var cs)) (hl:cs.length=ds.length) (hw:∀(j:Nat) x y,cs[j]? =some x→ds[j]? =some y→Wk x y) (hown:∀(j sz:Nat) (es:List AV),ds[j]? =some (.own sz es)→cs[j]? =some (.own sz es)):
  Le n st ⟨st.env,putL st.hp id (.var ds)⟩:=by
 rintro F a w ⟨S,β,E,M⟩
 obtain ⟨bi,h1,h2,cur,t,g1,g2,g3,g4,g5,g6⟩:=M.obs id _ ho
 have one:∀{i:Nat} {e:AV},[AV.agg ds][i]? =some e→i=0∧e= .agg ds:=fun {i e} h=>by
  cases i with
  |zero=>simp at h;exact ⟨rfl,h.symm⟩
  |succ i=>simp at h
 obtain ⟨x,M'⟩:=M.turn (w':=w) h1 ho (by simp) ⟨rfl,rfl,rfl,Nat.le_refl _,fun _ _ _=>rfl⟩ (.var ds) ⟨bi,h1,h2,cur,t,g1,g2,g3,g4,fun i e h=>by
  obtain ⟨_,rfl⟩:=one h
  show ds.length=bi.sz
  rw [←hl];exact g5 0 (.agg cs) rfl,fun i j e c h k=>by
  obtain ⟨rfl,rfl⟩:=one h
  have k':ds[j]? =some c:=k
  have hj:j<cs.length:=by rw [hl];exact (List.getElem?_eq_some_iff.1 k').1
  obtain ⟨u,hu,hv⟩:=g6 0 j (.agg cs) cs[j] rfl (List.getElem?_eq_getElem hj)
  exact ⟨u,hu,(hw j _ c (List.getElem?_eq_getElem hj) k').V hv⟩⟩ (fun j sz es h=>⟨hown j sz es h,rfl⟩)
 exact ⟨S,β,E,M'⟩
abbrev Z2h0:Nat×AV:=(0,.elt 100000 0 0)
abbrev Z2h1 (p:ByteArray) (hd:List Ar) (bd:List Li):Nat×AV:=(4,.tptr [.str p,.seq (hd.map Ar.av) false,.seq (bd.map Li.av) false])
abbrev Z2h2 (a:Ad):Nat×AV:=(5,.tptr [.str a.1,.str a.2])
abbrev Z2h3 (L:List Ad) (rn:List ByteArray) (rv:List AV) (out:List Ru):Nat×Ob:=(100000,.var [.own 2 (L.map adA),.map 100001,.tmap (rn.map AV.str) rv,.own 3 (out.map Ru.av)])
abbrev Z2h4 (L:List Ad):Nat×Ob:=(100001,.map (L.map adA) (ixs L.length))
theorem w47d (L:List Ad) (rn:List ByteArray) (rv:List AV) (out:List Ru) (p nm:ByteArray) (hd:List Ar) (bd:List Li) (a:Ad):EN 119 (partC 1 (bodyOf Tryz.f47)) ⟨[Z2h0,Z2h1 p hd bd,Z2h2 a],[Z2h3 L rn rv out,Z2h4 L]⟩ ⟨[Z2h0,Z2h1 p hd bd,Z2h2 a,(6,.nils)],[Z2h3 L rn rv out,Z2h4 L]⟩:=by
 exact gE ⟨rfl,rfl⟩ 0 [] [0,4,5,6] [(100000,.keep 100000 false),(100001,.keep 100001 true)] (aC1 (show noIdsL (L.map adA)=true∧noIdsL (ixs L.length)=true from by simp))
abbrev Z2h5 (bd:List Li):Nat×Ob:=(45007,.row 16 (bd.map Li.av))
abbrev Z2h6:Nat×AV:=(6,.seq [] true)
abbrev Z2h7:Nat×AV:=(10,.elt 10 0 0)
abbrev Z2h8 (nm:ByteArray) (hd:List Ar):Nat×Ob:=(10,.var [.str nm,.seq (hd.map Ar.av) false,.own 16 []])
theorem w47en (L:List Ad) (rn:List ByteArray) (rv:List AV) (out:List Ru) (p nm:ByteArray) (hd:List Ar) (bd:List Li) (k82:Sp 82 [.seq (bd.map Li.av) false] [] (.row 45007 0 (bd.map Li.av).length) [Z2h5 bd]):EN 119 (partC 4 (bodyOf Tryz.f47)) ⟨[Z2h0,Z2h1 p hd bd,Z2h6,Z2h7],[Z2h3 L rn rv out,Z2h4 L,Z2h8 nm hd]⟩ ⟨[Z2h0,Z2h6,Z2h7,(11,.row 45007 0 (bd.map Li.av).length)],[Z2h3 L rn rv out,Z2h4 L,Z2h8 nm hd,Z2h5 bd]⟩:=by
 have hs0:=k82
 exact gE ⟨rfl,rfl⟩ 0 [.call (.row 45007 0 (bd.map Li.av).length) [] [Z2h5 bd]] [0,6,10,11] [(100000,.keep 100000 false),(100001,.keep 100001 true),(10,.keep 10 false),(45007,.keep 45007 true)] (aC3 hs0 (show noIdsL (L.map adA)=true∧noIdsL (ixs L.length)=true from by simp) (show noIdsL (bd.map Li.av)=true from by simp))
abbrev Z2h9 (p:ByteArray) (hd:List Ar):Nat×AV:=(4,.tptr [.str p,.seq (hd.map Ar.av) false,.seq (([]:List Li).map Li.av) false])
abbrev Z2ha:Nat×AV:=(11,.seq [] false)
theorem w47fn (L:List Ad) (rn:List ByteArray) (rv:List AV) (out:List Ru) (p nm:ByteArray) (hd:List Ar) (bd:List Li) (k82:Sp 82 [.seq (([]:List Li).map Li.av) false] [] (.seq (([]:List Li).map Li.av) false) []):EN 119 (partC 4 (bodyOf Tryz.f47)) ⟨[Z2h0,Z2h9 p hd,Z2h6,Z2h7],[Z2h3 L rn rv out,Z2h4 L,Z2h8 nm hd]⟩ ⟨[Z2h0,Z2h6,Z2h7,Z2ha],[Z2h3 L rn rv out,Z2h4 L,Z2h8 nm hd]⟩:=by
 have hs0:=k82
 exact gE ⟨rfl,rfl⟩ 0 [.call (.seq [] false) [] []] [0,6,10,11] [(100000,.keep 100000 false),(100001,.keep 100001 true),(10,.keep 10 false)] (aC2 hs0 (show noIdsL (L.map adA)=true∧noIdsL (ixs L.length)=true from by simp))
theorem z47en (L:List Ad) (rn:List ByteArray) (rv:List AV) (out:List Ru) (p nm:ByteArray) (hd:List Ar) (bd:List Li):En 119 (loopOf Tryz.f47 1) ⟨[Z2h0,Z2h6,Z2h7,Z2ha],[Z2h3 L rn rv out,Z2h4 L,Z2h8 nm hd]⟩ (fun e t=>e= .exit 2∧t=⟨[Z2h0,Z2h7],[Z2h3 L rn rv out,Z2h4 L,Z2h8 nm hd]⟩):=by
 exact gE ⟨rfl,rfl⟩ 0 [.is false] [0,10] [(100000,.keep 100000 false),(100001,.keep 100001 true),(10,.keep 10 false)] (aC2 (show false=false from rfl) (show noIdsL (L.map adA)=true∧noIdsL (ixs L.length)=true from by simp))
abbrev Z2hb (ks:List ByteArray):Nat×Ob:=(143,.row 1 (ks.map AV.str))
theorem w47er (L:List Ad) (rn:List ByteArray) (rv:List AV) (out:List Ru) (p nm:ByteArray) (hd:List Ar) (bd:List Li) (ks:List ByteArray) (k82:Sp 82 [.seq (bd.map Li.av) false] [] (.row 45007 0 (bd.map Li.av).length) [Z2h5 bd]):EN 119 (partC 4 (bodyOf Tryz.f47)) ⟨[Z2h0,Z2h1 p hd bd,(6,.row 143 0 (ks.map AV.str).length),Z2h7],[Z2h3 L rn rv out,Z2h4 L,Z2hb ks,Z2h8 nm hd]⟩ ⟨[Z2h0,(6,.row 143 0 (ks.map AV.str).length),Z2h7,(11,.row 45007 0 (bd.map Li.av).length)],[Z2h3 L rn rv out,Z2h4 L,Z2hb ks,Z2h8 nm hd,Z2h5 bd]⟩:=by
 have hs0:=k82
 exact gE ⟨rfl,rfl⟩ 0 [.call (.row 45007 0 (bd.map Li.av).length) [] [Z2h5 bd]] [0,6,10,11] [(100000,.keep 100000 false),(100001,.keep 100001 true),(143,.keep 143 true),(10,.keep 10 false),(45007,.keep 45007 true)] (aC4 hs0 (show noIdsL (L.map adA)=true∧noIdsL (ixs L.length)=true from by simp) (show noIdsL (ks.map AV.str)=true from by simp) (show noIdsL (bd.map Li.av)=true from by simp))
theorem w47fr (L:List Ad) (rn:List ByteArray) (rv:List AV) (out:List Ru) (p nm:ByteArray) (hd:List Ar) (bd:List Li) (ks:List ByteArray) (k82:Sp 82 [.seq (([]:List Li).map Li.av) false] [] (.seq (([]:List Li).map Li.av) false) []):EN 119 (partC 4 (bodyOf Tryz.f47)) ⟨[Z2h0,Z2h9 p hd,(6,.row 143 0 (ks.map AV.str).length),Z2h7],[Z2h3 L rn rv out,Z2h4 L,Z2hb ks,Z2h8 nm hd]⟩ ⟨[Z2h0,(6,.row 143 0 (ks.map AV.str).length),Z2h7,Z2ha],[Z2h3 L rn rv out,Z2h4 L,Z2hb ks,Z2h8 nm hd]⟩:=by
 have hs0:=k82
 exact gE ⟨rfl,rfl⟩ 0 [.call (.seq [] false) [] []] [0,6,10,11] [(100000,.keep 100000 false),(100001,.keep 100001 true),(143,.keep 143 true),(10,.keep 10 false)] (aC3 hs0 (show noIdsL (L.map adA)=true∧noIdsL (ixs L.length)=true from by simp) (show noIdsL (ks.map AV.str)=true from by simp))
theorem z47er (L:List Ad) (rn:List ByteArray) (rv:List AV) (out:List Ru) (p nm:ByteArray) (hd:List Ar) (bd:List Li) (ks:List ByteArray):En 119 (loopOf Tryz.f47 1) ⟨[Z2h0,(6,.row 143 0 (ks.map AV.str).length),Z2h7,Z2ha],[Z2h3 L rn rv out,Z2h4 L,Z2hb ks,Z2h8 nm hd]⟩ (fun e t=>e= .exit 2∧t=⟨[Z2h0,Z2h7],[Z2h3 L rn rv out,Z2h4 L,Z2h8 nm hd]⟩):=by
 exact gE ⟨rfl,rfl⟩ 0 [.is false] [0,10] [(100000,.keep 100000 false),(100001,.keep 100001 true),(10,.keep 10 false)] (aC2 (show false=false from rfl) (show noIdsL (L.map adA)=true∧noIdsL (ixs L.length)=true from by simp))
abbrev Z2hc (nm:ByteArray) (hd:List Ar) (bd:List Li):Nat×Ob:=(10,.var [.str nm,.seq (hd.map Ar.av) false,.seq (bd.map Li.av) false])
theorem r19n (L:List Ad) (rn:List ByteArray) (rv:List AV) (nm:ByteArray) (hd:List Ar) (bd:List Li):EN 119 (regOf Tryz.f47 109) ⟨[Z2h0,Z2h7],[(100000,.var [.own 2 (L.map adA),.map 100001,.tmap (rn.map AV.str) rv,.nils]),Z2h4 L,Z2hc nm hd bd]⟩ ⟨[],[(100000,.var [.own 2 (L.map adA),.map 100001,.tmap (rn.map AV.str) rv,.row 60116 0 1]),Z2h4 L,(60116,.row 3 [.agg [.str nm,.seq (hd.map Ar.av) false,.seq (bd.map Li.av) false]])]⟩:=by
 exact gE ⟨rfl,rfl⟩ 60000 [.is true] [] [(100000,.keep 100000 false),(100001,.keep 100001 true),(60116,.keep 60116 true)] (aC3 (show 1≤List.length [AV.agg [AV.str nm,AV.seq (hd.map Ar.av) false,AV.seq (bd.map Li.av) false]]∧[AV.agg [AV.str nm,AV.seq (hd.map Ar.av) false,AV.seq (bd.map Li.av) false]]≠[]∧(∀(e:AV),e∈[AV.agg [AV.str nm,AV.seq (hd.map Ar.av) false,AV.seq (bd.map Li.av) false]]→okE 3 e)∧(∀(e:AV),e∈[]→okE 3 e)∧(↑(0+List.length [AV.agg [AV.str nm,AV.seq (hd.map Ar.av) false,AV.seq (bd.map Li.av) false]]):Int)*64≤140737488355328∧0+List.length [AV.agg [AV.str nm,AV.seq (hd.map Ar.av) false,AV.seq (bd.map Li.av) false]]≤9223372036854775807 from by simp) (show noIdsL (L.map adA)=true∧noIdsL (ixs L.length)=true from by simp) rT)
theorem r19r (L:List Ad) (rn:List ByteArray) (rv:List AV) (out:List Ru) (nm:ByteArray) (hd:List Ar) (bd:List Li) (hok:∀e,e∈out.map Ru.av→okE 3 e) (hl:out.length<1000000000):EN 119 (regOf Tryz.f47 109) ⟨[Z2h0,Z2h7],[(100000,.var [.own 2 (L.map adA),.map 100001,.tmap (rn.map AV.str) rv,.row 60500 0 (out.map Ru.av).length]),Z2h4 L,Z2hc nm hd bd,(60500,.row 3 (out.map Ru.av))]⟩ ⟨[],[(100000,.var [.own 2 (L.map adA),.map 100001,.tmap (rn.map AV.str) rv,.row 60116 0 ((out.map Ru.av).length+1)]),Z2h4 L,(60116,.row 3 (out.map Ru.av++[.agg [.str nm,.seq (hd.map Ar.av) false,.seq (bd.map Li.av) false]]))]⟩:=by
 exact gE ⟨rfl,rfl⟩ 60000 [.is true] [] [(100000,.keep 100000 false),(100001,.keep 100001 true),(60116,.keep 60116 true)] (aC3 (show (1:Nat)≤List.length [AV.agg [AV.str nm,AV.seq (hd.map Ar.av) false,AV.seq (bd.map Li.av) false]]∧(0:Nat)=(0:Nat)∧List.length (out.map Ru.av)=List.length (out.map Ru.av)∧(∀(e:AV),e∈[AV.agg [AV.str nm,AV.seq (hd.map Ar.av) false,AV.seq (bd.map Li.av) false]]→okE (3:Nat) e)∧(∀(e:AV),e∈List.map Ru.av out→okE (3:Nat) e)∧(↑(List.length (out.map Ru.av)+List.length [AV.agg [AV.str nm,AV.seq (hd.map Ar.av) false,AV.seq (bd.map Li.av) false]]):Int)*(64:Int)≤(140737488355328:Int)∧List.length (out.map Ru.av)+List.length [AV.agg [AV.str nm,AV.seq (hd.map Ar.av) false,AV.seq (bd.map Li.av) false]]≤(9223372036854775807:Nat) from by refine ⟨by simp,rfl,rfl,by simp,by assumption,?_,?_⟩<;>(simp;omega)) (show noIdsL (L.map adA)=true∧noIdsL (ixs L.length)=true from by simp) (show noIdsL (List.map Ru.av out++[AV.agg [AV.str nm,AV.seq (hd.map Ar.av) false,AV.seq (bd.map Li.av) false]])=true from by simp))
abbrev Z2hd (nm:ByteArray) (hd:List Ar) (bd:List Li):Nat×Ob:=(10,.var [.str nm,.seq (hd.map Ar.av) false,.own 16 (bd.map Li.av)])
theorem bodyLe47 (L:List Ad) (rn:List ByteArray) (rv:List AV) (out:List Ru) (nm:ByteArray) (hd:List Ar) (bd:List Li):Le 119 ⟨[Z2h0,Z2h7],wp L (rn.map AV.str) rv out++[Z2hd nm hd bd]⟩ ⟨[Z2h0,Z2h7],[Z2h3 L rn rv out,Z2h4 L,Z2hc nm hd bd]⟩:=by
 by_cases hn:bd=[]
 ·subst hn
  refine (le_openNil (n:=119) (st:=⟨[Z2h0,Z2h7],[Z2h3 L rn rv out,Z2h4 L,Z2h8 nm hd]⟩) 10 2 (sz:=16) rfl rfl).trans ?_
  refine le_wkVar (n:=119) (st:=⟨[Z2h0,Z2h7],[Z2h3 L rn rv out,Z2h4 L,(10,.var [.str nm,.seq (hd.map Ar.av) false,.nils])]⟩) 10 (cs:=[.str nm,.seq (hd.map Ar.av) false,.nils]) (ds:=[.str nm,.seq (hd.map Ar.av) false,.seq [] false]) rfl rfl (fun j x y h1 h2=> ?_) (fun j sz es h=> ?_)
  ·match j,h1,h2 with
   |0,h1,h2=>simp at h1 h2;subst h1;subst h2;exact .refl _
   |1,h1,h2=>simp at h1 h2;subst h1;subst h2;exact .refl _
   |2,h1,h2=>simp at h1 h2;subst h1;subst h2;exact .nils
   |n+3,h1,h2=>simp at h1
  ·match j,h with
   |0,h=>simp at h
   |1,h=>simp at h
   |2,h=>simp at h
   |n+3,h=>simp at h
 ·refine (le_open (n:=119) (st:=⟨[Z2h0,Z2h7],[Z2h3 L rn rv out,Z2h4 L,Z2hd nm hd bd]⟩) 10 2 398 (sz:=16) rfl rfl (by simpa using hn) rfl (by simp [mid])).trans ?_
  exact renSt_le (n:=119) (slots:=[0,10]) (tb:=[(100000,.keep 100000 false),(100001,.keep 100001 true),(10,.keep 10 false),(398,.freeze)]) (st:=⟨[Z2h0,Z2h7],[Z2h3 L rn rv out,Z2h4 L,(10,.var [.str nm,.seq (hd.map Ar.av) false,.row 398 0 (bd.map Li.av).length]),(398,.row 16 (bd.map Li.av))]⟩) (st':=⟨[Z2h0,Z2h7],[Z2h3 L rn rv out,Z2h4 L,Z2hc nm hd bd]⟩)
   (cs:=[noIdsL (L.map adA)=true∧noIdsL (ixs L.length)=true,(bd.map Li.av).length=(bd.map Li.av).length,noIdsL (bd.map Li.av)=true]) rfl (fun q hq=>by
    simp only [List.mem_cons,List.not_mem_nil,or_false] at hq
    rcases hq with rfl|rfl|rfl
    ·exact ⟨noIdsL_ads L,noIdsL_ixs _⟩
    ·trivial
    ·exact noIdsL_lis bd)
abbrev Z2hg (L:List Ad) (rn:List ByteArray) (rv es:List AV):St:=⟨[],[(100000,.var [.own 2 (L.map adA),.map 100001,.tmap (rn.map AV.str) rv,.row 60116 0 es.length]),Z2h4 L,(60116,.row 3 es)]⟩
theorem tail47 (L:List Ad) (rn:List ByteArray) (rv:List AV) (out:List Ru) (nm:ByteArray) (hd:List Ar) (bd:List Li) (hl:out.length<1000000000):Rz 119 (restC 6 (bodyOf Tryz.f47)) ⟨[Z2h0,Z2h7],wp L (rn.map AV.str) rv out++[Z2hd nm hd bd]⟩ .normal ⟨[],wp L (rn.map AV.str) rv (out++[⟨nm,hd,bd⟩])⟩:=by
 have e:restC 6 (bodyOf Tryz.f47)=regOf Tryz.f47 109:=by kernel_rfl
 rw [e]
 refine Runs.pre ?_ (bodyLe47 L rn rv out nm hd bd)
 have cl:∀(es:List AV),0<es.length→noIdsL es=true→∀{s:St},Rz 119 (regOf Tryz.f47 109) s .normal (Z2hg L rn rv es)→Rz 119 (regOf Tryz.f47 109) s .normal ⟨[],[(100000,.var [.own 2 (L.map adA),.map 100001,.tmap (rn.map AV.str) rv,.own 3 es]),Z2h4 L]⟩:=by
  intro es h0 h1 s h
  have ht:es.take es.length=es:=List.take_length
  have b:=h.post (le_close (n:=119) (st:=(Z2hg L rn rv es)) 100000 3 60116 (o:= .var [.own 2 (L.map adA),.map 100001,.tmap (rn.map AV.str) rv,.row 60116 0 es.length]) rfl rfl rfl h0 (Nat.le_refl _) (by rw [ht];exact h1) (by simp [mid]))
  rw [ht] at b
  exact b.keepR [] [(100000,.keep 100000 false),(100001,.keep 100001 true)] (cs:=[noIdsL (L.map adA)=true∧noIdsL (ixs L.length)=true]) rfl ⟨⟨noIdsL_ads L,noIdsL_ixs _⟩,trivial⟩
 have e2:wp L (rn.map AV.str) rv (out++[⟨nm,hd,bd⟩])=[(100000,.var [.own 2 (L.map adA),.map 100001,.tmap (rn.map AV.str) rv,.own 3 (out.map Ru.av++[Ru.av ⟨nm,hd,bd⟩])]),Z2h4 L]:=by
  unfold wp;rw [List.map_append];rfl
 rw [e2]
 by_cases hn:out=[]
 ·subst hn
  obtain ⟨e,t,⟨rfl,rfl⟩,h⟩:=r19n L rn rv nm hd bd
  exact (cl [Ru.av ⟨nm,hd,bd⟩] (by simp) (noIdsL_rus' [⟨nm,hd,bd⟩]) h).pre (le_openNil (st:=⟨[Z2h0,Z2h7],[(100000,.var [.own 2 (L.map adA),.map 100001,.tmap (rn.map AV.str) rv,.own 3 []]),Z2h4 L,Z2hc nm hd bd]⟩) 100000 3 (sz:=3) rfl rfl)
 ·obtain ⟨e,t,⟨rfl,rfl⟩,h⟩:=r19r L rn rv out nm hd bd (ok_rus out) hl
  have e3:(out.map Ru.av).length+1=(out.map Ru.av++[AV.agg [.str nm,.seq (hd.map Ar.av) false,.seq (bd.map Li.av) false]]).length:=by simp
  rw [e3] at h
  exact (cl _ (by simp) (by rw [noIdsL_app,noIdsL_rus'];exact noIdsL_rus' [⟨nm,hd,bd⟩]) h).pre (le_open (st:=⟨[Z2h0,Z2h7],[Z2h3 L rn rv out,Z2h4 L,Z2hc nm hd bd]⟩) 100000 3 60500 (sz:=3) rfl rfl (by simpa using hn) rfl (by simp [mid]))
theorem blk5 {S S':St} (h:Lo 119 (loopOf Tryz.f47 1) S (.exit 2) S'):Rz 119 (partC 5 (bodyOf Tryz.f47)) S .normal S':=by
 have e5:partC 5 (bodyOf Tryz.f47)= .block 2 (.loop (loopOf Tryz.f47 1)):=by kernel_rfl
 rw [e5];exact (Loops.runs h).exitBlk
theorem mid47 (L:List Ad) (rn:List ByteArray) (rv:List AV) (out:List Ru) (p nm:ByteArray) (hd:List Ar) (bd:List Li) (ks:List ByteArray) (hrv:RV rn rv) (hbd:bd.length≤16) (hT:tinyB bd) (hn:∀y,y∈bd→(y.k=1∨y.k=2)→y.p.size≤120) (hks:ks.length≤24) (hL:L.length<999000) (hl:out.length<1000000000):
  ∃(L':List Ad) (body:List Li),Steps rn L ks bd L' body∧Rz 119 (restC 4 (bodyOf Tryz.f47)) ⟨[Z2h0,Z2h1 p hd bd,(6,kW ks),Z2h7],wp L (rn.map AV.str) rv out++(kP ks++[Z2h8 nm hd])⟩ .normal ⟨[],wp L' (rn.map AV.str) rv (out++[⟨nm,hd,body⟩])⟩:=by
 by_cases hb:bd=[]
 ·subst hb
  refine ⟨L,[],.nil L ks,?_⟩
  have k82':Sp 82 [.seq (([]:List Li).map Li.av) false] [] (.seq (([]:List Li).map Li.av) false) []:=k82 [] (by simp)
  cases ks with
  |nil=>
   obtain ⟨e,t,⟨rfl,rfl⟩,r4⟩:=w47fn L rn rv out p nm hd [] k82'
   obtain ⟨e,t,⟨rfl,rfl⟩,z⟩:=z47en L rn rv out p nm hd []
   have r5:=blk5 (Loops.leave z (by simp))
   exact Runs.nth 4 (by kernel_rfl) r4 (Runs.nth 5 (by kernel_rfl) r5 (tail47 L rn rv out nm hd [] hl))
  |cons k0 kr=>
   obtain ⟨e,t,⟨rfl,rfl⟩,r4⟩:=w47fr L rn rv out p nm hd [] (k0::kr) k82'
   obtain ⟨e,t,⟨rfl,rfl⟩,z⟩:=z47er L rn rv out p nm hd [] (k0::kr)
   have r5:=blk5 (Loops.leave z (by simp))
   exact Runs.nth 4 (by kernel_rfl) r4 (Runs.nth 5 (by kernel_rfl) r5 (tail47 L rn rv out nm hd [] hl))
 ·have k82':=k82r bd hb (by omega)
  obtain ⟨L',body,hs,hL'⟩:=l47_1 rn rv out nm hd hrv bd.length L bd [] ks rfl (by omega) hT hn (by simp;omega) (by omega) (by omega)
  refine ⟨L',body,hs,?_⟩
  have r5:=blk5 hL'
  have r6:=Runs.nth 5 (by kernel_rfl) r5 (tail47 L' rn rv out nm hd body hl)
  cases ks with
  |nil=>
   obtain ⟨e,t,⟨rfl,rfl⟩,r4⟩:=w47en L rn rv out p nm hd bd k82'
   exact Runs.nth 4 (by kernel_rfl) r4 r6
  |cons k0 kr=>
   obtain ⟨e,t,⟨rfl,rfl⟩,r4⟩:=w47er L rn rv out p nm hd bd (k0::kr) k82'
   exact Runs.nth 4 (by kernel_rfl) r4 r6
def headK (s:ByteArray) (hd:List Ar) (ks:List ByteArray):Prop:=∀v,v∈ks↔∃(j:Nat) (y:Ar),hd[j]? =some y∧bat s j∧y.t.v=v∧v≠⟨#[]⟩
abbrev Z2he (a:Ad) (hd:List Ar):Nat×Ob:=(10,.var [.str (nameT a.1 a.2),.seq (hd.map Ar.av) false,.nils])
abbrev Z2hf (a:Ad) (hd:List Ar):Nat×Ob:=(10,.var [.str (nameT a.1 a.2),.seq (hd.map Ar.av) false,.own 16 []])
theorem k47 (L:List Ad) (rn:List ByteArray) (rv:List AV) (out:List Ru) (p:ByteArray) (hd:List Ar) (bd:List Li) (a:Ad) (hrv:RV rn rv) (hs:smallR p hd bd) (hpl:a.2.size=hd.length) (hp:a.1.size≤120) (hL:L.length<999000) (hl:out.length<1000000000):
  ∃(ks:List ByteArray) (L':List Ad) (body:List Li),headK a.2 hd ks∧Steps rn L ks bd L' body∧Sp 47 [.elt 100000 0 0,.agg [.str p,.seq (hd.map Ar.av) false,.seq (bd.map Li.av) false],.agg [.str a.1,.str a.2]] (wp L (rn.map AV.str) rv out) (.tup []) (wp L' (rn.map AV.str) rv (out++[⟨nameT a.1 a.2,hd,body⟩])):=by
 obtain ⟨_,hs1,hs2,hs3,hs4⟩:=hs
 obtain ⟨ks,hL0,hk1,hk2⟩:=l47_0 L a (rn.map AV.str) rv out p hd bd hs1 hpl
 obtain ⟨L',body,hst,r4⟩:=mid47 L rn rv out p (nameT a.1 a.2) hd bd ks hrv hs2 (tinyB_of hs3) hs4 (by omega) hL hl
 refine ⟨ks,L',body,hk2,hst,?_⟩
 obtain ⟨e,t,⟨rfl,rfl⟩,r0⟩:=w47a L a (rn.map AV.str) rv out p hd bd
 obtain ⟨e,t,⟨rfl,rfl⟩,r1⟩:=w47d L rn rv out p (nameT a.1 a.2) hd bd a
 have fin:Rz 119 (restC 2 (bodyOf Tryz.f47)) ⟨[Z2h0,Z2h1 p hd bd,Z2h2 a,(6,.nils)],[Z2h3 L rn rv out,Z2h4 L]⟩ .normal ⟨[],wp L' (rn.map AV.str) rv (out++[⟨nameT a.1 a.2,hd,body⟩])⟩→Sp 47 [.elt 100000 0 0,.agg [.str p,.seq (hd.map Ar.av) false,.seq (bd.map Li.av) false],.agg [.str a.1,.str a.2]] (wp L (rn.map AV.str) rv out) (.tup []) (wp L' (rn.map AV.str) rv (out++[⟨nameT a.1 a.2,hd,body⟩])):=fun h=>
  Spec.gen2 (fn:=Tryz.f47) (c:=bodyOf Tryz.f47) (by kernel_rfl) (by kernel_rfl) rfl rfl rfl (obs_wp L (rn.map AV.str) rv out) (Runs.nth 0 (by kernel_rfl) r0 (Runs.nth 1 (by kernel_rfl) r1 h)) (.inl rfl) (by kernel_rfl)
 apply fin
 cases ks with
 |nil=>
  obtain ⟨e,t,⟨rfl,rfl⟩,r2⟩:=w47bn L a (rn.map AV.str) rv out p hd bd hL0
  obtain ⟨e,t,⟨rfl,rfl⟩,r3⟩:=w47cn L a (rn.map AV.str) rv out p hd bd hs1 (by omega) (by omega)
  have r3a:=r3.post (le_closeNil (n:=119) (st:=⟨[Z2h0,Z2h1 p hd bd,(6,.nils),Z2h7],[Z2h3 L rn rv out,Z2h4 L,Z2he a hd]⟩) 10 2 16 rfl rfl)
  have r3b:=r3a.post (le_nilC (n:=119) (st:=⟨[Z2h0,Z2h1 p hd bd,(6,.nils),Z2h7],[Z2h3 L rn rv out,Z2h4 L,Z2hf a hd]⟩) 6 rfl)
  have r3c:=r3b.keepR [0,4,6,10] [(100000,.keep 100000 false),(100001,.keep 100001 true),(10,.keep 10 false)] (st':=⟨[Z2h0,Z2h1 p hd bd,Z2h6,Z2h7],[Z2h3 L rn rv out,Z2h4 L,Z2hf a hd]⟩) (cs:=[noIdsL (L.map adA)=true∧noIdsL (ixs L.length)=true]) rfl ⟨⟨noIdsL_ads L,noIdsL_ixs _⟩,trivial⟩
  exact Runs.nth 2 (by kernel_rfl) r2 (Runs.nth 3 (by kernel_rfl) r3c r4)
 |cons k0 kr=>
  obtain ⟨e,t,⟨rfl,rfl⟩,r2⟩:=w47br L a (rn.map AV.str) rv out p hd bd (k0::kr) hL0
  obtain ⟨e,t,⟨rfl,rfl⟩,r3⟩:=w47cr L a (rn.map AV.str) rv out p hd bd (k0::kr) hs1 (by omega) (by omega)
  have r3a:=r3.post (le_closeNil (n:=119) (st:=⟨[Z2h0,Z2h1 p hd bd,(6,.row 143 0 ((k0::kr).map AV.str).length),Z2h7],[Z2h3 L rn rv out,Z2h4 L,(143,.row 1 ((k0::kr).map AV.str)),Z2he a hd]⟩) 10 2 16 rfl rfl)
  exact Runs.nth 2 (by kernel_rfl) r2 (Runs.nth 3 (by kernel_rfl) r3a r4)
abbrev Z2i0:Nat×AV:=(0,.elt 100000 0 0)
abbrev Z2i1 (L:List Ad) (rn:List ByteArray) (rv:List AV) (out:List Ru):Nat×Ob:=(100000,.var [.own 2 (L.map adA),.map 100001,.tmap (rn.map AV.str) rv,.own 3 (out.map Ru.av)])
abbrev Z2i2 (L:List Ad):Nat×Ob:=(100001,.map (L.map adA) (ixs L.length))
abbrev Z2i3 (p q:ByteArray):Nat×AV:=(3,.tptr [.str p,.str q])
theorem g48a (L:List Ad) (rn:List ByteArray) (rv:List AV) (out:List Ru) (p q:ByteArray):EN 50 (partC 0 (bodyOf Tryz.f48)) ⟨[Z2i0,(1,.agg [.str p,.str q])],[Z2i1 L rn rv out,Z2i2 L]⟩ ⟨[Z2i0,Z2i3 p q],[Z2i1 L rn rv out,Z2i2 L]⟩:=by
 exact gE ⟨rfl,rfl⟩ 0 [] [0,3] [(100000,.keep 100000 false),(100001,.keep 100001 true),(3,.freeze)] (aC2 (show noIdsL (L.map adA)=true∧noIdsL (ixs L.length)=true from by simp) rT)
abbrev Z2i4:Nat×AV:=(4,.elt 4 0 0)
abbrev Z2i5 (nm:ByteArray):Nat×Ob:=(4,.var [.str nm,.nils,.nils])
theorem g48b (L:List Ad) (rn:List ByteArray) (rv:List AV) (out:List Ru) (p q nm:ByteArray) (k14:Sp 14 [.agg [.str p,.str q]] [] (.str nm) []):EN 50 (partC 1 (bodyOf Tryz.f48)) ⟨[Z2i0,Z2i3 p q],[Z2i1 L rn rv out,Z2i2 L]⟩ ⟨[Z2i0,Z2i3 p q,Z2i4],[Z2i1 L rn rv out,Z2i2 L,Z2i5 nm]⟩:=by
 have hs0:=k14
 exact gE ⟨rfl,rfl⟩ 0 [.call (.str nm) [] []] [0,3,4] [(100000,.keep 100000 false),(100001,.keep 100001 true),(4,.keep 4 true)] (aC3 hs0 (show noIdsL (L.map adA)=true∧noIdsL (ixs L.length)=true from by simp) rT)
abbrev Z2i8 (p q:ByteArray):List (Nat×AV):=[Z2i0,Z2i3 p q,Z2i4,(5,.nils)]
theorem g48c (L:List Ad) (rn:List ByteArray) (rv:List AV) (out:List Ru) (p q nm:ByteArray):EN 50 (partC 2 (bodyOf Tryz.f48)) ⟨[Z2i0,Z2i3 p q,Z2i4],[Z2i1 L rn rv out,Z2i2 L,Z2i5 nm]⟩ ⟨(Z2i8 p q),[Z2i1 L rn rv out,Z2i2 L,Z2i5 nm]⟩:=by
 exact gE ⟨rfl,rfl⟩ 0 [] [0,3,4,5] [(100000,.keep 100000 false),(100001,.keep 100001 true),(4,.keep 4 true)] (aC2 (show noIdsL (L.map adA)=true∧noIdsL (ixs L.length)=true from by simp) rT)
theorem t48z (L:List Ad) (rn:List ByteArray) (rv:List AV) (out:List Ru) (p q nm:ByteArray) (i:Nat) (hi:i<q.size) (hq:q.size≤24) (s:ByteArray) (hs:s.size<1000) (k86:Sp 86 [.int .i64 (i:Int)] [] (.str s) []):EN 50 (loopOf Tryz.f48 0) ⟨[(0,.elt 100000 0 0),(3,.tptr [.str p,.str q]),(4,.elt 4 0 0),(5,.nils),(13,.int .i64 ((q.size:Nat):Int)),(14,.int .i64 (i:Int))],[(100000,.var [.own 2 (L.map adA),.map 100001,.tmap (rn.map AV.str) rv,.own 3 (out.map Ru.av)]),(100001,.map (L.map adA) (ixs L.length)),(4,.var [.str nm,.nils,.nils])]⟩ ⟨[(0,.elt 100000 0 0),(3,.tptr [.str p,.str q]),(4,.elt 4 0 0),(5,.row 131 0 1),(13,.int .i64 ((q.size:Nat):Int)),(14,.int .i64 ((i+1:Nat):Int))],[(100000,.var [.own 2 (L.map adA),.map 100001,.tmap (rn.map AV.str) rv,.own 3 (out.map Ru.av)]),(100001,.map (L.map adA) (ixs L.length)),(4,.var [.str nm,.row 126 0 1,.nils]),(126,.row 5 [.agg [.int .i8 0,.str (ByteArray.mk #[86]++s),.int .i8 0,.int .i64 0,.str ⟨#[]⟩]]),(131,.row 4 [.agg [.str (ByteArray.mk #[86]++s),.int .i8 0,.int .i64 0,.str ⟨#[]⟩]])]⟩:=by
 have hs0:=k86
 exact gE ⟨rfl,rfl⟩ 0 [.is true,.call (.str s) [] [],.is true,.is true] [0,3,4,5,13,14] [(100000,.keep 100000 false),(100001,.keep 100001 true),(4,.keep 4 false),(26,.keep 126 true),(31,.keep 131 true)] (aC9 (show decide ((i:Int)<(↑(ByteArray.size q):Int))=true from decide_eq_true (by omega)) hs0 (show 1+ByteArray.size s≤9223372036854775807 from by omega) (show 1≤List.length [AV.agg [AV.int .i8 0,AV.str (ByteArray.mk #[86]++s),AV.int .i8 0,AV.int .i64 0,AV.str (ByteArray.mk #[])]]∧[AV.agg [AV.int .i8 0,AV.str (ByteArray.mk #[86]++s),AV.int .i8 0,AV.int .i64 0,AV.str (ByteArray.mk #[])]]≠[]∧(∀(e:AV),e∈[AV.agg [AV.int .i8 0,AV.str (ByteArray.mk #[86]++s),AV.int .i8 0,AV.int .i64 0,AV.str (ByteArray.mk #[])]]→okE 5 e)∧(∀(e:AV),e∈[]→okE 5 e)∧(↑(0+List.length [AV.agg [AV.int .i8 0,AV.str (ByteArray.mk #[86]++s),AV.int .i8 0,AV.int .i64 0,AV.str (ByteArray.mk #[])]]):Int)*56≤140737488355328∧0+List.length [AV.agg [AV.int .i8 0,AV.str (ByteArray.mk #[86]++s),AV.int .i8 0,AV.int .i64 0,AV.str (ByteArray.mk #[])]]≤9223372036854775807 from by simp) (show 1≤List.length [AV.agg [AV.str (ByteArray.mk #[86]++s),AV.int .i8 0,AV.int .i64 0,AV.str (ByteArray.mk #[])]]∧[AV.agg [AV.str (ByteArray.mk #[86]++s),AV.int .i8 0,AV.int .i64 0,AV.str (ByteArray.mk #[])]]≠[]∧(∀(e:AV),e∈[AV.agg [AV.str (ByteArray.mk #[86]++s),AV.int .i8 0,AV.int .i64 0,AV.str (ByteArray.mk #[])]]→okE 4 e)∧(∀(e:AV),e∈[]→okE 4 e)∧(↑(0+List.length [AV.agg [AV.str (ByteArray.mk #[86]++s),AV.int .i8 0,AV.int .i64 0,AV.str (ByteArray.mk #[])]]):Int)*48≤140737488355328∧0+List.length [AV.agg [AV.str (ByteArray.mk #[86]++s),AV.int .i8 0,AV.int .i64 0,AV.str (ByteArray.mk #[])]]≤9223372036854775807 from by simp) (show IntKind.wrap .i64 ((i:Int)+1)=(i:Int)+1 from wrap64_id (by omega) (by omega)) (show noIdsL (L.map adA)=true∧noIdsL (ixs L.length)=true from by simp) rT rT)
theorem t48s (L:List Ad) (rn:List ByteArray) (rv:List AV) (out:List Ru) (p q nm:ByteArray) (i:Nat) (hi:i<q.size) (hq:q.size≤24) (s:ByteArray) (hs:s.size<1000) (k86:Sp 86 [.int .i64 (i:Int)] [] (.str s) []) (hs':List Ar) (ts:List Tm) (hl1:hs'.length<1000) (hl2:ts.length<1000) (ho1:∀e,e∈hs'.map Ar.av→okE 5 e) (ho2:∀e,e∈ts.map Tm.av→okE 4 e):EN 50 (loopOf Tryz.f48 0) ⟨[(0,.elt 100000 0 0),(3,.tptr [.str p,.str q]),(4,.elt 4 0 0),(5,.row 131 0 (ts.map Tm.av).length),(13,.int .i64 ((q.size:Nat):Int)),(14,.int .i64 (i:Int))],[(100000,.var [.own 2 (L.map adA),.map 100001,.tmap (rn.map AV.str) rv,.own 3 (out.map Ru.av)]),(100001,.map (L.map adA) (ixs L.length)),(4,.var [.str nm,.row 126 0 (hs'.map Ar.av).length,.nils]),(126,.row 5 (hs'.map Ar.av)),(131,.row 4 (ts.map Tm.av))]⟩ ⟨[(0,.elt 100000 0 0),(3,.tptr [.str p,.str q]),(4,.elt 4 0 0),(5,.row 131 0 ((ts.map Tm.av).length+1)),(13,.int .i64 ((q.size:Nat):Int)),(14,.int .i64 ((i+1:Nat):Int))],[(100000,.var [.own 2 (L.map adA),.map 100001,.tmap (rn.map AV.str) rv,.own 3 (out.map Ru.av)]),(100001,.map (L.map adA) (ixs L.length)),(4,.var [.str nm,.row 126 0 ((hs'.map Ar.av).length+1),.nils]),(126,.row 5 (hs'.map Ar.av++[.agg [.int .i8 0,.str (ByteArray.mk #[86]++s),.int .i8 0,.int .i64 0,.str ⟨#[]⟩]])),(131,.row 4 (ts.map Tm.av++[.agg [.str (ByteArray.mk #[86]++s),.int .i8 0,.int .i64 0,.str ⟨#[]⟩]]))]⟩:=by
 have hs0:=k86
 exact gE ⟨rfl,rfl⟩ 0 [.is true,.call (.str s) [] [],.is true,.is true] [0,3,4,5,13,14] [(100000,.keep 100000 false),(100001,.keep 100001 true),(4,.keep 4 false),(26,.keep 126 true),(31,.keep 131 true)] (aC9 (show decide ((i:Int)<(↑(ByteArray.size q):Int))=true from decide_eq_true (by omega)) hs0 (show 1+ByteArray.size s≤9223372036854775807 from by omega) (show (1:Nat)≤List.length [AV.agg [AV.int .i8 (0:Int),AV.str (ByteArray.mk #[(86:UInt8)]++s),AV.int .i8 (0:Int),AV.int .i64 (0:Int),AV.str (ByteArray.mk #[])]]∧(0:Nat)=(0:Nat)∧List.length (List.map Ar.av hs')=List.length (List.map Ar.av hs')∧(∀(e:AV),e∈[AV.agg [AV.int .i8 (0:Int),AV.str (ByteArray.mk #[(86:UInt8)]++s),AV.int .i8 (0:Int),AV.int .i64 (0:Int),AV.str (ByteArray.mk #[])]]→okE (5:Nat) e)∧(∀(e:AV),e∈List.map Ar.av hs'→okE (5:Nat) e)∧(↑(List.length (List.map Ar.av hs')+List.length [AV.agg [AV.int .i8 (0:Int),AV.str (ByteArray.mk #[(86:UInt8)]++s),AV.int .i8 (0:Int),AV.int .i64 (0:Int),AV.str (ByteArray.mk #[])]]):Int)*(56:Int)≤(140737488355328:Int)∧List.length (List.map Ar.av hs')+List.length [AV.agg [AV.int .i8 (0:Int),AV.str (ByteArray.mk #[(86:UInt8)]++s),AV.int .i8 (0:Int),AV.int .i64 (0:Int),AV.str (ByteArray.mk #[])]]≤(9223372036854775807:Nat) from by simp;omega) (show (1:Nat)≤List.length [AV.agg [AV.str (ByteArray.mk #[(86:UInt8)]++s),AV.int .i8 (0:Int),AV.int .i64 (0:Int),AV.str (ByteArray.mk #[])]]∧(0:Nat)=(0:Nat)∧List.length (ts.map Tm.av)=List.length (ts.map Tm.av)∧(∀(e:AV),e∈[AV.agg [AV.str (ByteArray.mk #[(86:UInt8)]++s),AV.int .i8 (0:Int),AV.int .i64 (0:Int),AV.str (ByteArray.mk #[])]]→okE (4:Nat) e)∧(∀(e:AV),e∈List.map Tm.av ts→okE (4:Nat) e)∧(↑(List.length (ts.map Tm.av)+List.length [AV.agg [AV.str (ByteArray.mk #[(86:UInt8)]++s),AV.int .i8 (0:Int),AV.int .i64 (0:Int),AV.str (ByteArray.mk #[])]]):Int)*(48:Int)≤(140737488355328:Int)∧List.length (ts.map Tm.av)+List.length [AV.agg [AV.str (ByteArray.mk #[(86:UInt8)]++s),AV.int .i8 (0:Int),AV.int .i64 (0:Int),AV.str (ByteArray.mk #[])]]≤(9223372036854775807:Nat) from by simp;omega) (show IntKind.wrap .i64 ((i:Int)+1)=(i:Int)+1 from wrap64_id (by omega) (by omega)) (show noIdsL (L.map adA)=true∧noIdsL (ixs L.length)=true from by simp) (show noIdsL (List.map Ar.av hs'++[AV.agg [AV.int .i8 0,AV.str (ByteArray.mk #[86]++s),AV.int .i8 0,AV.int .i64 0,AV.str (ByteArray.mk #[])]])=true from by simp) (show noIdsL (List.map Tm.av ts++[AV.agg [AV.str (ByteArray.mk #[86]++s),AV.int .i8 0,AV.int .i64 0,AV.str (ByteArray.mk #[])]])=true from by simp))
theorem e48z (L:List Ad) (rn:List ByteArray) (rv:List AV) (out:List Ru) (p q nm:ByteArray):En 50 (loopOf Tryz.f48 0) ⟨[(0,.elt 100000 0 0),(3,.tptr [.str p,.str q]),(4,.elt 4 0 0),(5,.nils),(13,.int .i64 ((q.size:Nat):Int)),(14,.int .i64 ((q.size:Nat):Int))],[(100000,.var [.own 2 (L.map adA),.map 100001,.tmap (rn.map AV.str) rv,.own 3 (out.map Ru.av)]),(100001,.map (L.map adA) (ixs L.length)),(4,.var [.str nm,.nils,.nils])]⟩ (fun e t=>e= .exit 0∧t=⟨[(0,.elt 100000 0 0),(3,.tptr [.str p,.str q]),(4,.elt 4 0 0),(5,.nils)],[(100000,.var [.own 2 (L.map adA),.map 100001,.tmap (rn.map AV.str) rv,.own 3 (out.map Ru.av)]),(100001,.map (L.map adA) (ixs L.length)),(4,.var [.str nm,.nils,.nils])]⟩):=by
 exact gE ⟨rfl,rfl⟩ 0 [.is false] [0,3,4,5] [(100000,.keep 100000 false),(100001,.keep 100001 true),(4,.keep 4 true)] (aC3 (show decide ((↑(ByteArray.size q):Int)<(↑(ByteArray.size q):Int))=false from decide_eq_false (by omega)) (show noIdsL (L.map adA)=true∧noIdsL (ixs L.length)=true from by simp) rT)
theorem e48s (L:List Ad) (rn:List ByteArray) (rv:List AV) (out:List Ru) (p q nm:ByteArray) (hs:List Ar) (ts:List Tm):En 50 (loopOf Tryz.f48 0) ⟨[(0,.elt 100000 0 0),(3,.tptr [.str p,.str q]),(4,.elt 4 0 0),(5,.row 131 0 (ts.map Tm.av).length),(13,.int .i64 ((q.size:Nat):Int)),(14,.int .i64 ((q.size:Nat):Int))],[(100000,.var [.own 2 (L.map adA),.map 100001,.tmap (rn.map AV.str) rv,.own 3 (out.map Ru.av)]),(100001,.map (L.map adA) (ixs L.length)),(4,.var [.str nm,.row 126 0 (hs.map Ar.av).length,.nils]),(126,.row 5 (hs.map Ar.av)),(131,.row 4 (ts.map Tm.av))]⟩ (fun e t=>e= .exit 0∧t=⟨[(0,.elt 100000 0 0),(3,.tptr [.str p,.str q]),(4,.elt 4 0 0),(5,.row 131 0 (ts.map Tm.av).length)],[(100000,.var [.own 2 (L.map adA),.map 100001,.tmap (rn.map AV.str) rv,.own 3 (out.map Ru.av)]),(100001,.map (L.map adA) (ixs L.length)),(4,.var [.str nm,.row 126 0 (hs.map Ar.av).length,.nils]),(126,.row 5 (hs.map Ar.av)),(131,.row 4 (ts.map Tm.av))]⟩):=by
 exact gE ⟨rfl,rfl⟩ 0 [.is false] [0,3,4,5] [(100000,.keep 100000 false),(100001,.keep 100001 true),(4,.keep 4 false),(126,.keep 126 true),(131,.keep 131 true)] (aC4 (show decide ((↑(ByteArray.size q):Int)<(↑(ByteArray.size q):Int))=false from decide_eq_false (by omega)) (show noIdsL (L.map adA)=true∧noIdsL (ixs L.length)=true from by simp) (show noIdsL (hs.map Ar.av)=true from by simp) (show noIdsL (ts.map Tm.av)=true from by simp))
theorem g48d (L:List Ad) (rn:List ByteArray) (rv:List AV) (out:List Ru) (p q nm:ByteArray) (hs:List Ar) (ts:List Tm):EN 50 (partC 4 (bodyOf Tryz.f48)) ⟨[Z2i0,Z2i3 p q,Z2i4,(5,.seq (ts.map Tm.av) false)],[Z2i1 L rn rv out,Z2i2 L,(4,.var [.str nm,.seq (hs.map Ar.av) false,.nils])]⟩ ⟨[Z2i0,Z2i4],[Z2i1 L rn rv out,Z2i2 L,(4,.var [.str nm,.seq (hs.map Ar.av) false,.seq [.agg [.int .i8 1,.str p,.seq (ts.map Tm.av) false,.int .i8 0,.int .i8 0,.str ⟨#[]⟩,.int .i8 0,.int .i64 0,.str ⟨#[]⟩,.nils,.int .i8 0,.str ⟨#[]⟩,.int .i8 0,.int .i64 0,.str ⟨#[]⟩,.nils]] false])]⟩:=by
 exact gE ⟨rfl,rfl⟩ 0 [] [0,4] [(100000,.keep 100000 false),(100001,.keep 100001 true),(4,.keep 4 false),(38,.freeze)] (aC3 (show noIdsL (L.map adA)=true∧noIdsL (ixs L.length)=true from by simp) (show 1=List.length [AV.agg [AV.int .i8 1,AV.str p,AV.seq (ts.map Tm.av) false,AV.int .i8 0,AV.int .i8 0,AV.str (ByteArray.mk #[]),AV.int .i8 0,AV.int .i64 0,AV.str (ByteArray.mk #[]),AV.nils,AV.int .i8 0,AV.str (ByteArray.mk #[]),AV.int .i8 0,AV.int .i64 0,AV.str (ByteArray.mk #[]),AV.nils]] from by rfl) rT)
abbrev Z2i6 (nm:ByteArray) (hd:List Ar) (bd:List Li):Nat×Ob:=(4,.var [.str nm,.seq (hd.map Ar.av) false,.seq (bd.map Li.av) false])
theorem r11n (L:List Ad) (rn:List ByteArray) (rv:List AV) (nm:ByteArray) (hd:List Ar) (bd:List Li):EN 50 (restC 5 (bodyOf Tryz.f48)) ⟨[Z2i0,Z2i4],[(100000,.var [.own 2 (L.map adA),.map 100001,.tmap (rn.map AV.str) rv,.nils]),Z2i2 L,Z2i6 nm hd bd]⟩ ⟨[],[(100000,.var [.own 2 (L.map adA),.map 100001,.tmap (rn.map AV.str) rv,.row 60047 0 1]),Z2i2 L,(60047,.row 3 [.agg [.str nm,.seq (hd.map Ar.av) false,.seq (bd.map Li.av) false]])]⟩:=by
 exact gE ⟨rfl,rfl⟩ 60000 [.is true] [] [(100000,.keep 100000 false),(100001,.keep 100001 true),(60047,.keep 60047 true)] (aC3 (show 1≤List.length [AV.agg [AV.str nm,AV.seq (hd.map Ar.av) false,AV.seq (bd.map Li.av) false]]∧[AV.agg [AV.str nm,AV.seq (hd.map Ar.av) false,AV.seq (bd.map Li.av) false]]≠[]∧(∀(e:AV),e∈[AV.agg [AV.str nm,AV.seq (hd.map Ar.av) false,AV.seq (bd.map Li.av) false]]→okE 3 e)∧(∀(e:AV),e∈[]→okE 3 e)∧(↑(0+List.length [AV.agg [AV.str nm,AV.seq (hd.map Ar.av) false,AV.seq (bd.map Li.av) false]]):Int)*64≤140737488355328∧0+List.length [AV.agg [AV.str nm,AV.seq (hd.map Ar.av) false,AV.seq (bd.map Li.av) false]]≤9223372036854775807 from by simp) (show noIdsL (L.map adA)=true∧noIdsL (ixs L.length)=true from by simp) rT)
theorem r11r (L:List Ad) (rn:List ByteArray) (rv:List AV) (out:List Ru) (nm:ByteArray) (hd:List Ar) (bd:List Li) (hok:∀e,e∈out.map Ru.av→okE 3 e) (hl:out.length<1000000000):EN 50 (restC 5 (bodyOf Tryz.f48)) ⟨[Z2i0,Z2i4],[(100000,.var [.own 2 (L.map adA),.map 100001,.tmap (rn.map AV.str) rv,.row 60500 0 (out.map Ru.av).length]),Z2i2 L,Z2i6 nm hd bd,(60500,.row 3 (out.map Ru.av))]⟩ ⟨[],[(100000,.var [.own 2 (L.map adA),.map 100001,.tmap (rn.map AV.str) rv,.row 60047 0 ((out.map Ru.av).length+1)]),Z2i2 L,(60047,.row 3 (out.map Ru.av++[.agg [.str nm,.seq (hd.map Ar.av) false,.seq (bd.map Li.av) false]]))]⟩:=by
 exact gE ⟨rfl,rfl⟩ 60000 [.is true] [] [(100000,.keep 100000 false),(100001,.keep 100001 true),(60047,.keep 60047 true)] (aC3 (show (1:Nat)≤List.length [AV.agg [AV.str nm,AV.seq (hd.map Ar.av) false,AV.seq (bd.map Li.av) false]]∧(0:Nat)=(0:Nat)∧List.length (out.map Ru.av)=List.length (out.map Ru.av)∧(∀(e:AV),e∈[AV.agg [AV.str nm,AV.seq (hd.map Ar.av) false,AV.seq (bd.map Li.av) false]]→okE (3:Nat) e)∧(∀(e:AV),e∈List.map Ru.av out→okE (3:Nat) e)∧(↑(List.length (out.map Ru.av)+List.length [AV.agg [AV.str nm,AV.seq (hd.map Ar.av) false,AV.seq (bd.map Li.av) false]]):Int)*(64:Int)≤(140737488355328:Int)∧List.length (out.map Ru.av)+List.length [AV.agg [AV.str nm,AV.seq (hd.map Ar.av) false,AV.seq (bd.map Li.av) false]]≤(9223372036854775807:Nat) from by refine ⟨by simp,rfl,rfl,by simp,by assumption,?_,?_⟩<;>(simp;omega)) (show noIdsL (L.map adA)=true∧noIdsL (ixs L.length)=true from by simp) (show noIdsL (List.map Ru.av out++[AV.agg [AV.str nm,AV.seq (hd.map Ar.av) false,AV.seq (bd.map Li.av) false]])=true from by simp))
def vT (i:Nat):Tm:=⟨ByteArray.mk #[86]++⟨(Lib.itoa (i:Int)).toArray⟩,0,0,⟨#[]⟩⟩
def hV (n:Nat):List Ar:=(List.range n).map fun i=>⟨0,vT i⟩
def tV (n:Nat):List Tm:=(List.range n).map vT
def zEx:Ex:= .mk 0 ⟨⟨#[]⟩,0,0,⟨#[]⟩⟩ []
def gLi (p:ByteArray) (n:Nat):Li:=⟨1,p,tV n,0,zEx,zEx⟩
theorem hV_succ (n:Nat):hV (n+1)=hV n++[⟨0,vT n⟩]:=by simp [hV,List.range_succ]
theorem tV_succ (n:Nat):tV (n+1)=tV n++[vT n]:=by simp [tV,List.range_succ]
theorem hV_len (n:Nat):(hV n).length=n:=by simp [hV]
theorem tV_len (n:Nat):(tV n).length=n:=by simp [tV]
theorem itoa_small (i:Nat) (hi:i<25):(Lib.itoa (i:Int)).length<1000:=by
 unfold Lib.itoa
 rw [if_neg (by omega),Int.toNat_natCast]
 by_cases h:i<10
 ·rw [Lib.decDigits_one h];simp
 ·rw [Lib.decDigits_two h (by omega)];simp
theorem ok_ars (l:List Ar):∀e,e∈l.map Ar.av→okE 5 e:=fun e he=>by
 obtain ⟨x,_,rfl⟩:=List.mem_map.1 he
 simp
theorem ok_tms (l:List Tm):∀e,e∈l.map Tm.av→okE 4 e:=fun e he=>by
 obtain ⟨x,_,rfl⟩:=List.mem_map.1 he
 simp
def g48 (L:List Ad) (rn:List ByteArray) (rv:List AV) (out:List Ru) (p q nm:ByteArray) (n:Nat):Nat→St
 |0=>⟨[(0,.elt 100000 0 0),(3,.tptr [.str p,.str q]),(4,.elt 4 0 0),(5,.nils),(13,.int .i64 ((n:Nat):Int)),(14,.int .i64 0)],[(100000,.var [.own 2 (L.map adA),.map 100001,.tmap (rn.map AV.str) rv,.own 3 (out.map Ru.av)]),(100001,.map (L.map adA) (ixs L.length)),(4,.var [.str nm,.nils,.nils])]⟩
 |i+1=>⟨[(0,.elt 100000 0 0),(3,.tptr [.str p,.str q]),(4,.elt 4 0 0),(5,.row 131 0 ((tV (i+1)).map Tm.av).length),(13,.int .i64 ((n:Nat):Int)),(14,.int .i64 ((i+1:Nat):Int))],[(100000,.var [.own 2 (L.map adA),.map 100001,.tmap (rn.map AV.str) rv,.own 3 (out.map Ru.av)]),(100001,.map (L.map adA) (ixs L.length)),(4,.var [.str nm,.row 126 0 ((hV (i+1)).map Ar.av).length,.nils]),(126,.row 5 ((hV (i+1)).map Ar.av)),(131,.row 4 ((tV (i+1)).map Tm.av))]⟩
def x48 (L:List Ad) (rn:List ByteArray) (rv:List AV) (out:List Ru) (p q nm:ByteArray):Nat→St
 |0=>⟨[(0,.elt 100000 0 0),(3,.tptr [.str p,.str q]),(4,.elt 4 0 0),(5,.nils)],[(100000,.var [.own 2 (L.map adA),.map 100001,.tmap (rn.map AV.str) rv,.own 3 (out.map Ru.av)]),(100001,.map (L.map adA) (ixs L.length)),(4,.var [.str nm,.nils,.nils])]⟩
 |i+1=>⟨[(0,.elt 100000 0 0),(3,.tptr [.str p,.str q]),(4,.elt 4 0 0),(5,.row 131 0 ((tV (i+1)).map Tm.av).length)],[(100000,.var [.own 2 (L.map adA),.map 100001,.tmap (rn.map AV.str) rv,.own 3 (out.map Ru.av)]),(100001,.map (L.map adA) (ixs L.length)),(4,.var [.str nm,.row 126 0 ((hV (i+1)).map Ar.av).length,.nils]),(126,.row 5 ((hV (i+1)).map Ar.av)),(131,.row 4 ((tV (i+1)).map Tm.av))]⟩
theorem l48_0 (L:List Ad) (rn:List ByteArray) (rv:List AV) (out:List Ru) (p q nm:ByteArray) (hq:q.size≤24) (n:Nat) (hn:q.size=n):Lo 50 (loopOf Tryz.f48 0) (g48 L rn rv out p q nm n 0) (.exit 0) (x48 L rn rv out p q nm n):=by
 have k86:∀i:Nat,i≤24→Sp 86 [.int .i64 (i:Int)] [] (.str ⟨(Lib.itoa (i:Int)).toArray⟩) []:=fun i hi=>itoa_spec i (by omega) (by omega)
 have sz:∀i:Nat,i≤24→(ByteArray.mk (Lib.itoa (i:Int)).toArray).size<1000:=fun i hi=>by
  have:=itoa_small i (by omega)
  simpa [ByteArray.size] using this
 refine Loops.from (st:=g48 L rn rv out p q nm n) (N:=n) (fun i hi=> ?_) ?_
 ·cases i with
  |zero=>
   obtain ⟨e,t,⟨rfl,rfl⟩,h⟩:=t48z L rn rv out p q nm 0 (by omega) hq _ (sz 0 (by omega)) (k86 0 (by omega))
   rw [hn] at h
   exact h
  |succ i=>
   obtain ⟨e,t,⟨rfl,rfl⟩,h⟩:=t48s L rn rv out p q nm (i+1) (by omega) hq _ (sz (i+1) (by omega)) (k86 (i+1) (by omega)) (hV (i+1)) (tV (i+1)) (by rw [hV_len];omega) (by rw [tV_len];omega) (ok_ars _) (ok_tms _)
   have e1:(hV (i+1+1)).map Ar.av=(hV (i+1)).map Ar.av++[Ar.av ⟨0,vT (i+1)⟩]:=by rw [hV_succ (i+1),List.map_append];rfl
   have e2:(tV (i+1+1)).map Tm.av=(tV (i+1)).map Tm.av++[Tm.av (vT (i+1))]:=by rw [tV_succ (i+1),List.map_append];rfl
   have e3:((hV (i+1)).map Ar.av++[Ar.av ⟨0,vT (i+1)⟩]).length=((hV (i+1)).map Ar.av).length+1:=by simp
   have e4:((tV (i+1)).map Tm.av++[Tm.av (vT (i+1))]).length=((tV (i+1)).map Tm.av).length+1:=by simp
   show Rz 50 (loopOf Tryz.f48 0) (g48 L rn rv out p q nm n (i+1)) .normal (g48 L rn rv out p q nm n (i+1+1))
   rw [hn] at h
   simp only [g48]
   rw [e1,e2,e3,e4]
   exact h
 ·cases n with
  |zero=>
   obtain ⟨e,t,⟨rfl,rfl⟩,h⟩:=e48z L rn rv out p q nm
   rw [hn] at h
   exact .leave h (by simp)
  |succ i=>
   obtain ⟨e,t,⟨rfl,rfl⟩,h⟩:=e48s L rn rv out p q nm (hV (i+1)) (tV (i+1))
   rw [hn] at h
   exact .leave h (by simp)
theorem g48e (L:List Ad) (rn:List ByteArray) (rv:List AV) (out:List Ru) (p q nm:ByteArray):EN 50 (regOf Tryz.f48 11) ⟨(Z2i8 p q),[Z2i1 L rn rv out,Z2i2 L,Z2i5 nm]⟩ ⟨[Z2i0,Z2i3 p q,Z2i4,(5,.nils),(13,.int .i64 ((q.size:Nat):Int)),(14,.int .i64 0)],[Z2i1 L rn rv out,Z2i2 L,Z2i5 nm]⟩:=by
 exact gE ⟨rfl,rfl⟩ 0 [] [0,3,4,5,13,14] [(100000,.keep 100000 false),(100001,.keep 100001 true),(4,.keep 4 true)] (aC2 (show noIdsL (L.map adA)=true∧noIdsL (ixs L.length)=true from by simp) rT)
theorem le_wkEnv {n:Nat} {st:St} (t:Nat) (y:AV) (hw:Wk (lookD st.env t) y):Le n st ⟨(t,y)::st.env,st.hp⟩:=by
 rintro F a w ⟨S,β,⟨e1,e2,e3⟩,M⟩
 refine ⟨S,β,⟨e1,e2,fun k=> ?_⟩,M⟩
 by_cases e:t=k
 ·subst e
  have e4:lookD ((t,y)::st.env) t=y:=by simp [lookD,look]
  rw [e4];exact hw.V (e3 t)
 ·have e4:lookD ((t,y)::st.env) k=lookD st.env k:=by simp [lookD,look,e]
  rw [e4];exact e3 k
theorem midG (L:List Ad) (rn:List ByteArray) (rv:List AV) (out:List Ru) (p q nm:ByteArray):∀n:Nat,Le 50 (x48 L rn rv out p q nm n) ⟨[Z2i0,Z2i3 p q,Z2i4,(5,.seq ((tV n).map Tm.av) false)],[Z2i1 L rn rv out,Z2i2 L,(4,.var [.str nm,.seq ((hV n).map Ar.av) false,.nils])]⟩
 |0=>by
  refine (le_wkVar (n:=50) (st:=⟨(Z2i8 p q),[Z2i1 L rn rv out,Z2i2 L,Z2i5 nm]⟩) 4 (cs:=[.str nm,.nils,.nils]) (ds:=[.str nm,.seq [] false,.nils]) rfl rfl (fun j x y h1 h2=> ?_) (fun j sz es h=> ?_)).trans ?_
  ·match j,h1,h2 with
   |0,h1,h2=>simp at h1 h2;subst h1;subst h2;exact .refl _
   |1,h1,h2=>simp at h1 h2;subst h1;subst h2;exact .nils
   |2,h1,h2=>simp at h1 h2;subst h1;subst h2;exact .refl _
   |n+3,h1,h2=>simp at h1
  ·match j,h with
   |0,h=>simp at h
   |1,h=>simp at h
   |2,h=>simp at h
   |n+3,h=>simp at h
  ·refine (le_wkEnv (n:=50) (st:=⟨(Z2i8 p q),[Z2i1 L rn rv out,Z2i2 L,(4,.var [.str nm,.seq [] false,.nils])]⟩) 5 (.seq [] false) .nils).trans ?_
   exact renSt_le (n:=50) (slots:=[0,3,4,5]) (tb:=[(100000,.keep 100000 false),(100001,.keep 100001 true),(4,.keep 4 true)]) (cs:=[noIdsL (L.map adA)=true∧noIdsL (ixs L.length)=true,noIdsL [AV.str nm,.seq [] false,.nils]=true]) rfl (fun z hz=>by
    simp only [List.mem_cons,List.not_mem_nil,or_false] at hz
    rcases hz with rfl|rfl
    ·exact ⟨noIdsL_ads L,noIdsL_ixs _⟩
    ·rfl)
 |i+1=>by
  exact renSt_le (n:=50) (slots:=[0,3,4,5]) (tb:=[(100000,.keep 100000 false),(100001,.keep 100001 true),(4,.keep 4 false),(126,.freeze),(131,.freeze)]) (st:=⟨[Z2i0,Z2i3 p q,Z2i4,(5,.row 131 0 ((tV (i+1)).map Tm.av).length)],[Z2i1 L rn rv out,Z2i2 L,(4,.var [.str nm,.row 126 0 ((hV (i+1)).map Ar.av).length,.nils]),(126,.row 5 ((hV (i+1)).map Ar.av)),(131,.row 4 ((tV (i+1)).map Tm.av))]⟩)
   (st':=⟨[Z2i0,Z2i3 p q,Z2i4,(5,.seq ((tV (i+1)).map Tm.av) false)],[Z2i1 L rn rv out,Z2i2 L,(4,.var [.str nm,.seq ((hV (i+1)).map Ar.av) false,.nils])]⟩) (cs:=[((tV (i+1)).map Tm.av).length=((tV (i+1)).map Tm.av).length,noIdsL (L.map adA)=true∧noIdsL (ixs L.length)=true,((hV (i+1)).map Ar.av).length=((hV (i+1)).map Ar.av).length,noIdsL ((hV (i+1)).map Ar.av)=true,noIdsL ((tV (i+1)).map Tm.av)=true]) rfl (fun z hz=>by
    simp only [List.mem_cons,List.not_mem_nil,or_false] at hz
    rcases hz with rfl|rfl|rfl|rfl|rfl
    ·trivial
    ·exact ⟨noIdsL_ads L,noIdsL_ixs _⟩
    ·trivial
    ·exact noIdsL_ars _
    ·exact noIdsL_tms _)
abbrev Z2i7 (L:List Ad) (rn:List ByteArray) (rv es:List AV):St:=⟨[],[(100000,.var [.own 2 (L.map adA),.map 100001,.tmap (rn.map AV.str) rv,.row 60047 0 es.length]),Z2i2 L,(60047,.row 3 es)]⟩
theorem tailG (L:List Ad) (rn:List ByteArray) (rv:List AV) (out:List Ru) (nm:ByteArray) (hd:List Ar) (bd:List Li) (hl:out.length<1000000000):Rz 50 (restC 5 (bodyOf Tryz.f48)) ⟨[Z2i0,Z2i4],[Z2i1 L rn rv out,Z2i2 L,Z2i6 nm hd bd]⟩ .normal ⟨[],wp L (rn.map AV.str) rv (out++[⟨nm,hd,bd⟩])⟩:=by
 have cl:∀(es:List AV),0<es.length→noIdsL es=true→∀{s:St},Rz 50 (restC 5 (bodyOf Tryz.f48)) s .normal (Z2i7 L rn rv es)→Rz 50 (restC 5 (bodyOf Tryz.f48)) s .normal ⟨[],[(100000,.var [.own 2 (L.map adA),.map 100001,.tmap (rn.map AV.str) rv,.own 3 es]),Z2i2 L]⟩:=by
  intro es h0 h1 s h
  have ht:es.take es.length=es:=List.take_length
  have b:=h.post (le_close (n:=50) (st:=(Z2i7 L rn rv es)) 100000 3 60047 (o:= .var [.own 2 (L.map adA),.map 100001,.tmap (rn.map AV.str) rv,.row 60047 0 es.length]) rfl rfl rfl h0 (Nat.le_refl _) (by rw [ht];exact h1) (by simp [mid]))
  rw [ht] at b
  exact b.keepR [] [(100000,.keep 100000 false),(100001,.keep 100001 true)] (cs:=[noIdsL (L.map adA)=true∧noIdsL (ixs L.length)=true]) rfl ⟨⟨noIdsL_ads L,noIdsL_ixs _⟩,trivial⟩
 have e2:wp L (rn.map AV.str) rv (out++[⟨nm,hd,bd⟩])=[(100000,.var [.own 2 (L.map adA),.map 100001,.tmap (rn.map AV.str) rv,.own 3 (out.map Ru.av++[Ru.av ⟨nm,hd,bd⟩])]),Z2i2 L]:=by
  unfold wp;rw [List.map_append];rfl
 rw [e2]
 by_cases hn:out=[]
 ·subst hn
  obtain ⟨e,t,⟨rfl,rfl⟩,h⟩:=r11n L rn rv nm hd bd
  exact (cl [Ru.av ⟨nm,hd,bd⟩] (by simp) (noIdsL_rus' [⟨nm,hd,bd⟩]) h).pre (le_openNil (st:=⟨[Z2i0,Z2i4],[(100000,.var [.own 2 (L.map adA),.map 100001,.tmap (rn.map AV.str) rv,.own 3 []]),Z2i2 L,Z2i6 nm hd bd]⟩) 100000 3 (sz:=3) rfl rfl)
 ·obtain ⟨e,t,⟨rfl,rfl⟩,h⟩:=r11r L rn rv out nm hd bd (ok_rus out) hl
  have e3:(out.map Ru.av).length+1=(out.map Ru.av++[AV.agg [.str nm,.seq (hd.map Ar.av) false,.seq (bd.map Li.av) false]]).length:=by simp
  rw [e3] at h
  exact (cl _ (by simp) (by rw [noIdsL_app,noIdsL_rus'];exact noIdsL_rus' [⟨nm,hd,bd⟩]) h).pre (le_open (st:=⟨[Z2i0,Z2i4],[Z2i1 L rn rv out,Z2i2 L,Z2i6 nm hd bd]⟩) 100000 3 60500 (sz:=3) rfl rfl (by simpa using hn) rfl (by simp [mid]))
theorem wk_gLi (p:ByteArray) (n:Nat):Wk (.seq [.agg [.int .i8 1,.str p,.seq ((tV n).map Tm.av) false,.int .i8 0,.int .i8 0,.str ⟨#[]⟩,.int .i8 0,.int .i64 0,.str ⟨#[]⟩,.nils,.int .i8 0,.str ⟨#[]⟩,.int .i8 0,.int .i64 0,.str ⟨#[]⟩,.nils]] false) (.seq [(gLi p n).av] false):=by
 refine .seq _ _ false rfl (fun i e f h1 h2=> ?_) (fun i e f j x y h1 h2 h3 h4=> ?_)
 ·cases i with
  |zero=>simp at h1 h2;subst h1;subst h2;rfl
  |succ i=>simp at h1
 ·cases i with
  |succ i=>simp at h1
  |zero=>
   simp at h1 h2;subst h1;subst h2
   have g:(gLi p n).av.cells=[.int .i8 1,.str p,.seq ((tV n).map Tm.av) false,.int .i8 0,.int .i8 0,.str ⟨#[]⟩,.int .i8 0,.int .i64 0,.str ⟨#[]⟩,.seq [] false,.int .i8 0,.str ⟨#[]⟩,.int .i8 0,.int .i64 0,.str ⟨#[]⟩,.seq [] false]:=rfl
   rw [g] at h4
   simp only [AV.cells] at h3
   have hj:j<16:=(List.getElem?_eq_some_iff.1 h3).1
   have h5:j=9∨j=15∨(j≠9∧j≠15):=by omega
   rcases h5 with rfl|rfl|⟨h6,h7⟩
   ·simp at h3 h4;subst h3;subst h4;exact .nils
   ·simp at h3 h4;subst h3;subst h4;exact .nils
   ·have:x=y:=by
     match j,hj,h6,h7,h3,h4 with
     |0,_,_,_,h3,h4|1,_,_,_,h3,h4|2,_,_,_,h3,h4|3,_,_,_,h3,h4|4,_,_,_,h3,h4|5,_,_,_,h3,h4|6,_,_,_,h3,h4|7,_,_,_,h3,h4|8,_,_,_,h3,h4|10,_,_,_,h3,h4|11,_,_,_,h3,h4|12,_,_,_,h3,h4|13,_,_,_,h3,h4|14,_,_,_,h3,h4=>exact Option.some.inj (h3.symm.trans h4)
     |9,_,h6,_,_,_=>exact absurd rfl h6
     |15,_,_,h7,_,_=>exact absurd rfl h7
     |n+16,hj,_,_,_,_=>omega
    rw [this];exact .refl y
theorem k48 (L:List Ad) (rn:List ByteArray) (rv:List AV) (out:List Ru) (a:Ad) (hp:a.1.size<1000000) (hq:a.2.size≤24) (hl:out.length<1000000000):
  Sp 48 [.elt 100000 0 0,.agg [.str a.1,.str a.2]] (wp L (rn.map AV.str) rv out) (.tup []) (wp L (rn.map AV.str) rv (out++[⟨nameT a.1 a.2,hV a.2.size,[gLi a.1 a.2.size]⟩])):=by
 obtain ⟨e,t,⟨rfl,rfl⟩,r0⟩:=g48a L rn rv out a.1 a.2
 obtain ⟨e,t,⟨rfl,rfl⟩,r1⟩:=g48b L rn rv out a.1 a.2 (nameT a.1 a.2) (k14 a.1 a.2 (by omega) (by omega))
 obtain ⟨e,t,⟨rfl,rfl⟩,r2⟩:=g48c L rn rv out a.1 a.2 (nameT a.1 a.2)
 obtain ⟨e,t,⟨rfl,rfl⟩,r3⟩:=g48e L rn rv out a.1 a.2 (nameT a.1 a.2)
 have e3:partC 3 (bodyOf Tryz.f48)= .seq (regOf Tryz.f48 11) (.block 0 (.loop (loopOf Tryz.f48 0))):=by kernel_rfl
 have hL:=l48_0 L rn rv out a.1 a.2 (nameT a.1 a.2) hq a.2.size rfl
 have r3':Rz 50 (partC 3 (bodyOf Tryz.f48)) ⟨[Z2i0,(3,.tptr [.str a.1,.str a.2]),Z2i4,(5,.nils)],[Z2i1 L rn rv out,Z2i2 L,(4,.var [.str (nameT a.1 a.2),.nils,.nils])]⟩ .normal (x48 L rn rv out a.1 a.2 (nameT a.1 a.2) a.2.size):=by
  rw [e3];exact r3.seq (Loops.runs hL).exitBlk
 have r3c:=r3'.post (midG L rn rv out a.1 a.2 (nameT a.1 a.2) a.2.size)
 obtain ⟨e,t,⟨rfl,rfl⟩,r4⟩:=g48d L rn rv out a.1 a.2 (nameT a.1 a.2) (hV a.2.size) (tV a.2.size)
 have r4':=r4.post (le_wkVar (n:=50) (st:=⟨[Z2i0,Z2i4],[Z2i1 L rn rv out,Z2i2 L,(4,.var [.str (nameT a.1 a.2),.seq ((hV a.2.size).map Ar.av) false,.seq [.agg [.int .i8 1,.str a.1,.seq ((tV a.2.size).map Tm.av) false,.int .i8 0,.int .i8 0,.str ⟨#[]⟩,.int .i8 0,.int .i64 0,.str ⟨#[]⟩,.nils,.int .i8 0,.str ⟨#[]⟩,.int .i8 0,.int .i64 0,.str ⟨#[]⟩,.nils]] false])]⟩) 4 (cs:=[.str (nameT a.1 a.2),.seq ((hV a.2.size).map Ar.av) false,.seq [.agg [.int .i8 1,.str a.1,.seq ((tV a.2.size).map Tm.av) false,.int .i8 0,.int .i8 0,.str ⟨#[]⟩,.int .i8 0,.int .i64 0,.str ⟨#[]⟩,.nils,.int .i8 0,.str ⟨#[]⟩,.int .i8 0,.int .i64 0,.str ⟨#[]⟩,.nils]] false]) (ds:=[.str (nameT a.1 a.2),.seq ((hV a.2.size).map Ar.av) false,.seq [(gLi a.1 a.2.size).av] false]) rfl rfl (fun j x y h1 h2=>by
  match j,h1,h2 with
  |0,h1,h2=>simp at h1 h2;subst h1;subst h2;exact .refl _
  |1,h1,h2=>simp at h1 h2;subst h1;subst h2;exact .refl _
  |2,h1,h2=>simp at h1 h2;subst h1;subst h2;exact wk_gLi a.1 a.2.size
  |n+3,h1,h2=>simp at h1) (fun j sz es h=>by
  match j,h with
  |0,h=>simp at h
  |1,h=>simp at h
  |2,h=>simp at h
  |n+3,h=>simp at h))
 have r5:=tailG L rn rv out (nameT a.1 a.2) (hV a.2.size) [gLi a.1 a.2.size] hl
 exact Spec.gen2 (fn:=Tryz.f48) (c:=bodyOf Tryz.f48) (by kernel_rfl) (by kernel_rfl) rfl rfl rfl (obs_wp L (rn.map AV.str) rv out) (Runs.nth 0 (by kernel_rfl) r0 (Runs.nth 1 (by kernel_rfl) r1 (Runs.nth 2 (by kernel_rfl) r2 (Runs.nth 3 (by kernel_rfl) r3c (Runs.nth 4 (by kernel_rfl) r4' r5))))) (.inl rfl) (by kernel_rfl)
theorem Spec.shut {P:Program} {f:FuncId} {args:List AV} {rest upd:List (Nat×Ob)} {r:AV} {id d sz:Nat} {es cs:List AV} (h:Spec P f args ((id,.var (.own sz es::cs))::rest) r upd) (hne:0<es.length) (hno:noIdsL es=true) (hm:mid≤d→mid≤id) (hd:d≠id)
  (hr:∀x,x∈rest→x.1≠id∧x.1≠d) (hu:∀x,x∈upd→x.1≠d) (hi:∃o,look upd id=some o) (uq:uniqK upd=true) (uq2:uniqK (upd++[(d,.dead)])=true):
  Spec P f args ((id,.var (.row d 0 es.length::cs))::(rest++[(d,.row sz es)])) r (upd++[(d,.dead)]):=by
 intro F S β hp w vs M hl hv hpl hfr
 have h1:look hp id=some (.var (.row d 0 es.length::cs)):=hpl id _ (by simp)
 have h2:look hp d=some (.row sz es):=hpl d _ (by simp)
 have M2:=M.closeOwn (j:=0) h1 rfl h2 hne (Nat.le_refl _) (by rw [List.take_length];exact hno) hm
 rw [List.take_length] at M2
 have ho:(Ob.var (.row d 0 es.length::cs)).set 0 (.own sz es)= .var (.own sz es::cs):=rfl
 rw [ho] at M2
 have lk:∀k,look (putL (putL hp id (.var (.own sz es::cs))) d .dead) k=if d=k then some .dead else if id=k then some (.var (.own sz es::cs)) else look hp k:=fun k=>by rw [look_put,look_put]
 refine (h F S β _ w vs M2 hl hv (fun k o hm'=> ?_) (fun k o hm' hn=> ?_)).mono ?_
 ·rw [lk]
  rcases List.mem_cons.1 hm' with h3|h3
  ·injection h3 with h3 h4;subst h3;subst h4
   rw [if_neg hd,if_pos rfl]
  ·obtain ⟨h4,h5⟩:=hr _ h3
   rw [if_neg (Ne.symm h5),if_neg (Ne.symm h4)]
   exact hpl k o (by simp [h3])
 ·have hk1:d≠k:=fun e=>hu _ hm' e.symm
  have hk2:id≠k:=fun e=>hn (.var (.own sz es::cs)) (by rw [e];simp)
  rw [lk,if_neg hk1,if_neg hk2]
  refine hfr k o (by simp [hm']) fun o' h3=> ?_
  rcases List.mem_cons.1 h3 with h3|h3
  ·injection h3 with h3 _;exact hk2 h3.symm
  ·rcases List.mem_append.1 h3 with h3|h3
   ·exact hn o' (by simp [h3])
   ·rw [List.mem_singleton] at h3;injection h3 with h3 _;exact hk1 h3.symm
 ·rintro e w' ⟨v,S',β',rfl,x,m,k⟩
  refine ⟨v,S',β',rfl,x,m.look_eq fun j=> ?_,k⟩
  show look (putAll _ upd) j=look (putAll hp (upd++[(d,.dead)])) j
  rw [look_putAll uq,look_putAll uq2,lk]
  have la:∀{l:List (Nat×Ob)},look (l++[(d,Ob.dead)]) j=match look l j with
    |some o=>some o
    |none=>if d=j then some .dead else none:=by
   intro l
   induction l with
   |nil=>simp only [List.nil_append,look]
   |cons y l ih=>
    obtain ⟨a,b⟩:=y
    simp only [List.cons_append,look]
    by_cases e:a=j
    ·rw [if_pos e,if_pos e]
    ·rw [if_neg e,if_neg e];exact ih
  rw [la]
  cases hk:look upd j with
  |some o=>rfl
  |none=>
   simp only
   by_cases e:d=j
   ·rw [if_pos e,if_pos e]
   ·have e2:id≠j:=by
     rintro rfl
     obtain ⟨o,ho⟩:=hi
     rw [hk] at ho;cases ho
    rw [if_neg e,if_neg e,if_neg e2]
abbrev Z2j0 (L:List Ad):Nat×Ob:=(33,.map (L.map adA) (ixs L.length))
def wq (L:List Ad) (rk rv:List AV) (out:List Ru):List (Nat×Ob):=[(32,.var [.own 2 (L.map adA),.map 33,.tmap rk rv,.own 3 (out.map Ru.av)]),Z2j0 L]
def wqO (L:List Ad) (rk rv:List AV) (out:List Ru):List (Nat×Ob):=[(32,.var [.row 34 0 (L.map adA).length,.map 33,.tmap rk rv,.own 3 (out.map Ru.av)]),Z2j0 L,(34,.row 2 (L.map adA))]
def nW:List (Nat×Nat):=[(100000,32),(100001,33)]
def lW (L:List Ad) (rk rv:List AV) (out:List Ru):List (Nat×Nat×Ob):=[(100000,32,.var [.own 2 (L.map adA),.map 33,.tmap rk rv,.own 3 (out.map Ru.av)]),(100001,33,.map (L.map adA) (ixs L.length))]
theorem wp_out (L:List Ad) (rk rv:List AV) (out:List Ru):(wp L rk rv out).map (fun x=>(numO nW x.1,renOb (kOut nW) x.2))=wq L rk rv out:=by
 simp only [wp,wq,List.map_cons,List.map_nil,renOb,renL_noIds _ _ (noIdsL_ads L),renL_noIds _ _ (noIdsL_ixs L.length)]
 rfl
theorem wp_in (L:List Ad) (rk rv:List AV) (out:List Ru):((lW L rk rv out).map fun x=>(x.1,renOb (kIn (lW L rk rv out)) x.2.2))=wp L rk rv out:=by
 simp only [wp,lW,List.map_cons,List.map_nil,renOb,renL_noIds _ _ (noIdsL_ads L),renL_noIds _ _ (noIdsL_ixs L.length)]
 rfl
theorem q46z (a:Ad) (rk rv:List AV) (hp:a.1.size<1000000000000000000) (hs:a.2.size<1000000000000000000):Sp 46 [.elt 32 0 0,.agg [.str a.1,.str a.2]] [(32,.var [.own 2 [],.nilmap,.tmap rk rv,.own 3 []])] (.str (nameT a.1 a.2)) (wq [a] rk rv []):=by
 have h:=(k46z a rk rv [] hp hs).renum [(100000,32,.var [.own 2 [],.nilmap,.tmap rk rv,.own 3 []])] nW (args':=[.elt 32 0 0,.agg [.str a.1,.str a.2]]) rfl rfl rfl
 rw [wp_out] at h
 exact h
theorem shutW {f:FuncId} {args:List AV} {L L':List Ad} {rk rv:List AV} {out out':List Ru} {r:AV} (h:Sp f args (wq L rk rv out) r (wq L' rk rv out')) (hne:L≠[]):Sp f args (wqO L rk rv out) r (wq L' rk rv out'++[(34,.dead)]):=by
 refine Spec.shut (id:=32) (d:=34) (sz:=2) (es:=L.map adA) (cs:=[.map 33,.tmap rk rv,.own 3 (out.map Ru.av)]) (rest:=[Z2j0 L]) h ?_ (noIdsL_ads L) (by simp [mid]) (by decide) (fun x hx=> ?_) (fun x hx=> ?_) ⟨_,rfl⟩ rfl rfl
 ·rw [List.length_map];exact List.length_pos_iff.2 hne
 ·rw [List.mem_singleton] at hx;subst hx;exact ⟨by simp,by simp⟩
 ·simp only [wq,List.mem_cons,List.not_mem_nil,or_false] at hx
  rcases hx with rfl|rfl<;>simp
theorem q47 (L:List Ad) (rn:List ByteArray) (rv:List AV) (out:List Ru) (p:ByteArray) (hd:List Ar) (bd:List Li) (a:Ad) (hrv:RV rn rv) (hs:smallR p hd bd) (hpl:a.2.size=hd.length) (hp:a.1.size≤120) (hL:L.length<999000) (hl:out.length<1000000000) (hne:L≠[]):
  ∃(ks:List ByteArray) (L':List Ad) (body:List Li),headK a.2 hd ks∧Steps rn L ks bd L' body∧Sp 47 [.elt 32 0 0,.agg [.str p,.seq (hd.map Ar.av) false,.seq (bd.map Li.av) false],.agg [.str a.1,.str a.2]] (wqO L (rn.map AV.str) rv out) (.tup []) (wq L' (rn.map AV.str) rv (out++[⟨nameT a.1 a.2,hd,body⟩])++[(34,.dead)]):=by
 obtain ⟨ks,L',body,h1,h2,h⟩:=k47 L rn rv out p hd bd a hrv hs hpl hp hL hl
 have h3:=h.renum (lW L (rn.map AV.str) rv out) nW (args':=[.elt 32 0 0,.agg [.str p,.seq (hd.map Ar.av) false,.seq (bd.map Li.av) false],.agg [.str a.1,.str a.2]]) rfl (wp_in ..) rfl
 rw [wp_out] at h3
 exact ⟨ks,L',body,h1,h2,shutW h3 hne⟩
theorem q48 (L:List Ad) (rn:List ByteArray) (rv:List AV) (out:List Ru) (a:Ad) (hp:a.1.size<1000000) (hq:a.2.size≤24) (hl:out.length<1000000000) (hne:L≠[]):
  Sp 48 [.elt 32 0 0,.agg [.str a.1,.str a.2]] (wqO L (rn.map AV.str) rv out) (.tup []) (wq L (rn.map AV.str) rv (out++[⟨nameT a.1 a.2,hV a.2.size,[gLi a.1 a.2.size]⟩])++[(34,.dead)]):=by
 have h3:=(k48 L rn rv out a hp hq hl).renum (lW L (rn.map AV.str) rv out) nW (args':=[.elt 32 0 0,.agg [.str a.1,.str a.2]]) rfl (wp_in ..) rfl
 rw [wp_out] at h3
 exact shutW h3 hne
abbrev Z2k0 (L:List Ad) (rn:List ByteArray) (rv:List AV) (out:List Ru):Nat×Ob:=(32,.var [.row 34 0 (L.map adA).length,.map 33,.tmap (rn.map AV.str) rv,.own 3 (out.map Ru.av)])
abbrev Z2k1 (L:List Ad):Nat×Ob:=(33,.map (L.map adA) (ixs L.length))
abbrev Z2k2 (L:List Ad):Nat×Ob:=(34,.row 2 (L.map adA))
abbrev Z2k3 (L':List Ad) (rn:List ByteArray) (rv:List AV) (out':List Ru):Nat×Ob:=(32,.var [.own 2 (L'.map adA),.map 33,.tmap (rn.map AV.str) rv,.own 3 (out'.map Ru.av)])
abbrev Z2k4 (L':List Ad):Nat×Ob:=(33,.map (L'.map adA) (ixs L'.length))
abbrev Z2k5:Nat×AV:=(4,.elt 4 0 0)
abbrev Z2k6:Nat×AV:=(9,.elt 32 0 0)
abbrev Z2k7 (i:Nat):Nat×AV:=(12,.int .i64 (i:Int))
abbrev Z2k8 (rs:List Ru):Nat×AV:=(100,.seq (rs.map Ru.av) false)
abbrev Z2k9 (rs:List Ru):Nat×AV:=(101,.int .i64 ((rs.map Ru.av).length:Nat))
theorem t18i (L:List Ad) (rn:List ByteArray) (rv:List AV) (out:List Ru) (gz qc:List AV) (hz:noIdsL gz=true) (i:Nat) (L':List Ad) (out':List Ru) (a:Ad) (r:Ru) (rs:List Ru) (k:Nat) (hk:k<rs.length) (hsm:rs.length≤2000000) (hi:i<L.length) (hr:0≤(k:Int)∧(rs.map Ru.av)[Int.toNat (k:Int)]? =some r.av) (hx:(L.map adA)[0+Int.toNat (i:Int)]? =some (.agg [.str a.1,.str a.2])) (k47:Sp 47 [.elt 32 0 0,.agg [.str r.p,.seq (r.hd.map Ar.av) false,.seq (r.bd.map Li.av) false],.agg [.str a.1,.str a.2]] [Z2k0 L rn rv out,Z2k1 L,Z2k2 L] (.tup []) [Z2k3 L' rn rv out',Z2k4 L',(34,.dead)]):EN 153 (loopOf Tryz.f18 2) ⟨[Z2k5,(8,.tptr qc),Z2k6,Z2k7 i,Z2k8 rs,Z2k9 rs,(102,.int .i64 (k:Int))],[(4,.var gz),Z2k0 L rn rv out,Z2k1 L,Z2k2 L]⟩ ⟨[Z2k5,(8,.tptr qc),Z2k6,Z2k7 i,Z2k8 rs,Z2k9 rs,(102,.int .i64 ((k+1:Nat):Int))],[(4,.var gz),Z2k3 L' rn rv out',Z2k4 L']⟩:=by
 have hs0:=k47
 exact gE ⟨rfl,rfl⟩ 0 [.is true,.elt (Ru.av r),.elt (.agg [.str (Prod.fst a),.str (Prod.snd a)]),.call (.tup []) [32,33,34] [Z2k3 L' rn rv out',Z2k4 L',(34,.dead)]] [4,8,9,12,100,101,102] [(4,.keep 4 true),(32,.keep 32 false),(33,.keep 33 true)] (aC8 (show decide ((k:Int)<(↑(rs.map Ru.av).length:Int))=true from by simp;omega) hr (show 0≤(i:Int)∧(i:Int)<(↑(L.map adA).length:Int) from by simp;omega) hx hs0 (show IntKind.wrap .i64 ((k:Int)+1)=(k:Int)+1 from wrap64_id (by omega) (by omega)) hz (show noIdsL (List.map adA L')=true∧noIdsL (ixs (List.length L'))=true from by simp))
abbrev Z2ka (L:List Ad) (rn:List ByteArray) (rv:List AV) (out:List Ru):Nat×Ob:=(32,.var [.own 2 (L.map adA),.map 33,.tmap (rn.map AV.str) rv,.own 3 (out.map Ru.av)])
abbrev Z2kc (qc gz rv:List AV) (i:Nat) (L:List Ad) (rn:List ByteArray) (out:List Ru):St:=⟨[Z2k5,(8,.tptr qc),Z2k6,Z2k7 i],[(4,.var gz),Z2ka L rn rv out,Z2k1 L]⟩
theorem e18i (L:List Ad) (rn:List ByteArray) (rv:List AV) (out:List Ru) (gz qc:List AV) (hz:noIdsL gz=true) (i:Nat) (rs:List Ru):En 153 (loopOf Tryz.f18 2) ⟨[Z2k5,(8,.tptr qc),Z2k6,Z2k7 i,Z2k8 rs,Z2k9 rs,(102,.int .i64 ((rs.length:Nat):Int))],[(4,.var gz),Z2ka L rn rv out,Z2k1 L]⟩ (fun e t=>e= .exit 4∧t=(Z2kc qc gz rv i L rn out)):=by
 exact gE ⟨rfl,rfl⟩ 0 [.is false] [4,8,9,12] [(4,.keep 4 true),(32,.keep 32 false),(33,.keep 33 true)] (aC3 (show decide ((↑rs.length:Int)<(↑(rs.map Ru.av).length:Int))=false from by simp) hz (show noIdsL (L.map adA)=true∧noIdsL (ixs L.length)=true from by simp))
theorem r18a (L:List Ad) (rn:List ByteArray) (rv:List AV) (out:List Ru) (gz qc:List AV) (hz:noIdsL gz=true) (i:Nat) (a:Ad) (rs:List Ru) (hi:i<L.length) (hx:(L.map adA)[0+Int.toNat (i:Int)]? =some (.agg [.str a.1,.str a.2])) (hf:∃j,findA true (.str a.1) (rn.map AV.str) 0=some (some j)∧rv[j]? =some (.seq (rs.map Ru.av) false)):EN 153 (regOf Tryz.f18 87) ⟨[Z2k5,(8,.tptr qc),Z2k6,Z2k7 i],[(4,.var gz),Z2k0 L rn rv out,Z2k1 L,Z2k2 L]⟩ ⟨[Z2k5,(8,.tptr qc),Z2k6,Z2k7 i,Z2k8 rs,Z2k9 rs,(102,.int .i64 0)],[(4,.var gz),Z2k0 L rn rv out,Z2k1 L,Z2k2 L]⟩:=by
 exact gE ⟨rfl,rfl⟩ 0 [.elt (.agg [.str (Prod.fst a),.str (Prod.snd a)]),.elt (.seq (rs.map Ru.av) false)] [4,8,9,12,100,101,102] [(4,.keep 4 true),(32,.keep 32 false),(33,.keep 33 true),(34,.keep 34 true)] (aC6 (show 0≤(i:Int)∧(i:Int)<(↑(L.map adA).length:Int) from by simp;omega) hx hf hz (show noIdsL (L.map adA)=true∧noIdsL (ixs L.length)=true from by simp) (show noIdsL (L.map adA)=true from by simp))
abbrev Z2kb (L:List Ad) (rn:List ByteArray) (rv:List AV) (out':List Ru):Nat×Ob:=(32,.var [.own 2 (L.map adA),.map 33,.tmap (rn.map AV.str) rv,.own 3 (out'.map Ru.av)])
theorem r18b (L:List Ad) (rn:List ByteArray) (rv:List AV) (out:List Ru) (gz qc:List AV) (hz:noIdsL gz=true) (i:Nat) (out':List Ru) (a:Ad) (hi:i<L.length) (hx:(L.map adA)[0+Int.toNat (i:Int)]? =some (.agg [.str a.1,.str a.2])) (k48:Sp 48 [.elt 32 0 0,.agg [.str a.1,.str a.2]] [Z2k0 L rn rv out,Z2k1 L,Z2k2 L] (.tup []) [Z2kb L rn rv out',Z2k1 L,(34,.dead)]):EN 153 (regOf Tryz.f18 118) ⟨[Z2k5,(8,.tptr qc),Z2k6,Z2k7 i],[(4,.var gz),Z2k0 L rn rv out,Z2k1 L,Z2k2 L]⟩ ⟨[Z2k5,(8,.tptr qc),Z2k6,Z2k7 i],[(4,.var gz),Z2kb L rn rv out',Z2k1 L]⟩:=by
 have hs0:=k48
 exact gE ⟨rfl,rfl⟩ 0 [.elt (.agg [.str (Prod.fst a),.str (Prod.snd a)]),.call (.tup []) [32,33,34] [Z2kb L rn rv out',Z2k1 L,(34,.dead)]] [4,8,9,12] [(4,.keep 4 true),(32,.keep 32 false),(33,.keep 33 true)] (aC5 (show 0≤(i:Int)∧(i:Int)<(↑(L.map adA).length:Int) from by simp;omega) hx hs0 hz (show noIdsL (L.map adA)=true∧noIdsL (ixs L.length)=true from by simp))
theorem r18c (L:List Ad) (rn:List ByteArray) (rv:List AV) (out:List Ru) (gz qc:List AV) (hz:noIdsL gz=true) (i:Nat) (hi:i<L.length) (hL:L.length<1000000):EN 153 (regOf Tryz.f18 85) (Z2kc qc gz rv i L rn out) ⟨[Z2k5,(8,.tptr qc),Z2k6,(12,.int .i64 ((i+1:Nat):Int))],[(4,.var gz),Z2ka L rn rv out,Z2k1 L]⟩:=by
 exact gE ⟨rfl,rfl⟩ 0 [] [4,8,9,12] [(4,.keep 4 true),(32,.keep 32 false),(33,.keep 33 true)] (aC3 (show IntKind.wrap .i64 ((i:Int)+1)=(i:Int)+1 from wrap64_id (by omega) (by omega)) hz (show noIdsL (L.map adA)=true∧noIdsL (ixs L.length)=true from by simp))
theorem h18 (L:List Ad) (rn:List ByteArray) (rv:List AV) (out:List Ru) (gz qc:List AV) (hz:noIdsL gz=true) (i:Nat) (hll:(L.map adA).length=L.length) (hi:i<L.length):EN 153 (fstC (loopOf Tryz.f18 1)) (Z2kc qc gz rv i L rn out) (Z2kc qc gz rv i L rn out):=by
 exact gE ⟨rfl,rfl⟩ 0 [.is true] [4,8,9,12] [(4,.keep 4 true),(32,.keep 32 false),(33,.keep 33 true)] (aC3 (show decide ((i:Int)<(↑(L.map adA).length:Int))=true from decide_eq_true (by omega)) hz (show noIdsL (L.map adA)=true∧noIdsL (ixs L.length)=true from by simp))
theorem z18 (L:List Ad) (rn:List ByteArray) (rv:List AV) (out:List Ru) (gz qc:List AV) (hz:noIdsL gz=true) (i:Nat) (hll:(L.map adA).length=L.length) (hi:i=L.length):En 153 (loopOf Tryz.f18 1) (Z2kc qc gz rv i L rn out) (fun e t=>e= .exit 2∧t=⟨[Z2k5,(8,.tptr qc),Z2k6],[(4,.var gz),Z2ka L rn rv out,Z2k1 L]⟩):=by
 exact gE ⟨rfl,rfl⟩ 0 [.is false] [4,8,9] [(4,.keep 4 true),(32,.keep 32 false),(33,.keep 33 true)] (aC3 (show decide ((i:Int)<(↑(L.map adA).length:Int))=false from decide_eq_false (by omega)) hz (show noIdsL (L.map adA)=true∧noIdsL (ixs L.length)=true from by simp))
def rulesOf (rules:List Ru) (u:ByteArray):List Ru:=rules.filter fun r=>decide (r.p=u)
def rvOf (rules:List Ru) (rn:List ByteArray):List AV:=rn.map fun u=> .seq ((rulesOf rules u).map Ru.av) false
theorem mem_rulesOf {rules:List Ru} {u:ByteArray} {r:Ru}:r∈rulesOf rules u↔r∈rules∧r.p=u:=by simp [rulesOf]
def RN (rules:List Ru) (rn:List ByteArray):Prop:=∀u,u∈rn↔∃r,r∈rules∧r.p=u
theorem RV_of {rules:List Ru} {rn:List ByteArray} (h:RN rules rn):RV rn (rvOf rules rn):=fun j hj=>by
 refine ⟨(rulesOf rules rn[j]).map Ru.av,by simp [rvOf,List.getElem?_eq_getElem hj],?_⟩
 obtain ⟨r,h1,h2⟩:=(h rn[j]).1 (List.getElem_mem hj)
 rw [List.length_map]
 exact List.length_pos_of_mem (mem_rulesOf.2 ⟨h1,h2⟩)
inductive Wrs (rn:List ByteArray) (a:Ad):List Ru→List Ad→List Ru→List Ad→List Ru→Prop where
 |nil (L:List Ad) (out:List Ru):Wrs rn a [] L out L out
 |cons {r:Ru} {rs out out':List Ru} {L L1 L':List Ad} {ks:List ByteArray} {body:List Li} (h1:headK a.2 r.hd ks) (h2:Steps rn L ks r.bd L1 body) (h3:Wrs rn a rs L1 (out++[⟨nameT a.1 a.2,r.hd,body⟩]) L' out'):Wrs rn a (r::rs) L out L' out'
def gRu (a:Ad):Ru:=⟨nameT a.1 a.2,hV a.2.size,[gLi a.1 a.2.size]⟩
inductive Ads (rules:List Ru) (rn:List ByteArray):Nat→List Ad→List Ru→List Ad→List Ru→Prop where
 |stop (L:List Ad) (out:List Ru):Ads rules rn L.length L out L out
 |go {i:Nat} {a:Ad} {L L1 L':List Ad} {out out1 out':List Ru} (h1:L[i]? =some a) (h2:Wrs rn a (rulesOf rules a.1) L out L1 out1) (h3:Ads rules rn (i+1) L1 (out1++[gRu a]) L' out'):Ads rules rn i L out L' out'
structure UOK (rules:List Ru) (rn:List ByteArray) (U:List Ad):Prop where
 few:U.length≤100
 step:∀r,r∈rules→∀x,x∈r.bd→x.k=1→x.p∈rn→∀ks,(x.p,patT x.ts ks)∈U
 ari:∀a,a∈U→∀r,r∈rules→r.p=a.1→a.2.size=r.hd.length
 mem:∀a,a∈U→a.1∈rn∧a.1.size≤120∧a.2.size≤24
 bf:∀a,a∈U→∀b:UInt8,b∈a.2.data.toList→b=98∨b=102
def Good (U L:List Ad):Prop:=L.Nodup∧∀a,a∈L→a∈U
theorem nodup_len {α:Type}:∀{l m:List α},l.Nodup→(∀x,x∈l→x∈m)→l.length≤m.length
 |[],m,_,_=>Nat.zero_le _
 |x::r,m,hd,hs=>by
  obtain ⟨s,t,rfl⟩:=List.append_of_mem (hs x (by simp))
  have hx:=(List.nodup_cons.1 hd)
  have:=nodup_len (l:=r) (m:=s++t) hx.2 (fun y hy=>by
   have h1:=hs y (by simp [hy])
   simp only [List.mem_append,List.mem_cons] at h1⊢
   rcases h1 with h1|h1|h1
   ·exact .inl h1
   ·subst h1;exact absurd hy hx.1
   ·exact .inr h1)
  simp only [List.length_append,List.length_cons] at this⊢
  omega
theorem Good.len {U L:List Ad} (h:Good U L):L.length≤U.length:=nodup_len h.1 h.2
theorem Good.meet {U L:List Ad} (h:Good U L) {a:Ad} (ha:a∈U):Good U (meetL L a):=by
 unfold meetL
 split
 ·exact h
 ·rename_i hn
  refine ⟨List.nodup_append.2 ⟨h.1,by simp,fun x hx y hy=> ?_⟩,fun x hx=> ?_⟩
  ·rw [List.mem_singleton] at hy;subst hy;rintro rfl;exact hn hx
  ·rcases List.mem_append.1 hx with hx|hx
   ·exact h.2 x hx
   ·rw [List.mem_singleton] at hx;rw [hx];exact ha
theorem meetL_pre (L:List Ad) (a:Ad):L<+:meetL L a:=by
 unfold meetL
 split
 ·exact List.prefix_refl L
 ·exact List.prefix_append L [a]
theorem Steps.good {rn:List ByteArray} {U L L':List Ad} {ks:List ByteArray} {rest body:List Li} (h:Steps rn L ks rest L' body):(∀x,x∈rest→x.k=1→x.p∈rn→∀ks,(x.p,patT x.ts ks)∈U)→Good U L→Good U L'∧L<+:L':=by
 induction h with
 |nil L ks=>exact fun _ g=>⟨g,List.prefix_refl L⟩
 |skip i x hx hn h ih=>exact fun hs g=>ih (fun y hy=>hs y (List.mem_of_mem_eraseIdx hy)) g
 |ask i x hx hk hp h ih=>
  intro hs g
  obtain ⟨g1,g2⟩:=ih (fun y hy=>hs y (List.mem_of_mem_eraseIdx hy)) (g.meet (hs x (List.mem_of_getElem? hx) hk hp _))
  exact ⟨g1,(meetL_pre _ _).trans g2⟩
theorem pre_get {α:Type} {l m:List α} (h:l<+:m) {i:Nat} {x:α} (hx:l[i]? =some x):m[i]? =some x:=by
 obtain ⟨t,rfl⟩:=h
 rw [List.getElem?_append_left (List.getElem?_eq_some_iff.1 hx).1];exact hx
theorem openQ (n:Nat) (L:List Ad) (rk rv:List AV) (out:List Ru) (gz:List AV) (env:List (Nat×AV)) (hne:L≠[]):Le n ⟨env,(4,.var gz)::wq L rk rv out⟩ ⟨env,(4,.var gz)::wqO L rk rv out⟩:=
 le_open (n:=n) (st:=⟨env,(4,.var gz)::wq L rk rv out⟩) 32 0 34 (sz:=2) (es:=L.map adA) (o:= .var [.own 2 (L.map adA),.map 33,.tmap rk rv,.own 3 (out.map Ru.av)]) rfl rfl (by simpa using hne) rfl (by simp [mid])
theorem closeQ (n:Nat) (L:List Ad) (rk rv:List AV) (out:List Ru) (gz:List AV) (env:List (Nat×AV)) (hne:L≠[]):Le n ⟨env,(4,.var gz)::wqO L rk rv out⟩ ⟨env,(4,.var gz)::(wq L rk rv out++[(34,.dead)])⟩:=by
 have h:=le_close (n:=n) (st:=⟨env,(4,.var gz)::wqO L rk rv out⟩) 32 0 34 (sz:=2) (es:=L.map adA) (m:=(L.map adA).length) (o:= .var [.row 34 0 (L.map adA).length,.map 33,.tmap rk rv,.own 3 (out.map Ru.av)]) rfl rfl rfl (by rw [List.length_map];exact List.length_pos_iff.2 hne) (Nat.le_refl _) (by rw [List.take_length];exact noIdsL_ads L) (by simp [mid])
 rw [List.take_length] at h
 exact h
theorem l18i (rules:List Ru) (rn:List ByteArray) (U:List Ad) (gz qc:List AV) (hz:noIdsL gz=true) (i:Nat) (a:Ad) (rs:List Ru) (hrn:RN rules rn) (hu:UOK rules rn U) (hsm:rs.length≤2000000) (hrs:∀r,r∈rs→r∈rules∧r.p=a.1∧smallR r.p r.hd r.bd):∀(m k:Nat) (L:List Ad) (out:List Ru),k+m=rs.length→Good U L→L[i]? =some a→out.length+m<900000000→
  ∃(L':List Ad) (out':List Ru),Wrs rn a (rs.drop k) L out L' out'∧Good U L'∧L<+:L'∧out'.length=out.length+m∧Lo 153 (loopOf Tryz.f18 2) ⟨[Z2k5,(8,.tptr qc),Z2k6,Z2k7 i,Z2k8 rs,Z2k9 rs,(102,.int .i64 (k:Int))],(4,.var gz)::wq L (rn.map AV.str) (rvOf rules rn) out⟩ (.exit 4) ⟨[Z2k5,(8,.tptr qc),Z2k6,Z2k7 i],(4,.var gz)::wq L' (rn.map AV.str) (rvOf rules rn) out'⟩
 |0,k,L,out,hk,hg,ha,_=>by
  have e:rs.drop k=[]:=List.drop_of_length_le (by omega)
  rw [e]
  refine ⟨L,out,.nil L out,hg,List.prefix_refl L,rfl,?_⟩
  have:k=rs.length:=by omega
  subst this
  obtain ⟨e,t,⟨rfl,rfl⟩,h⟩:=e18i L rn (rvOf rules rn) out gz qc hz i rs
  exact .leave h (by simp)
 |m+1,k,L,out,hk,hg,ha,ho=>by
  have hlt:k<rs.length:=by omega
  have hr:rs[k]? =some rs[k]:=List.getElem?_eq_getElem hlt
  have hd:rs.drop k=rs[k]::rs.drop (k+1):=List.drop_eq_getElem_cons hlt
  rw [hd]
  generalize rs[k]=r at hr
  obtain ⟨h1,h2,h3⟩:=hrs r (List.mem_of_getElem? hr)
  have hi:i<L.length:=(List.getElem?_eq_some_iff.1 ha).1
  have hne:L≠[]:=by rintro rfl;simp at hi
  have haU:=hg.2 a (List.mem_of_getElem? ha)
  have hLl:=hg.len
  have huf:=hu.few
  obtain ⟨ks,L1,body,q1,q2,q3⟩:=q47 L rn (rvOf rules rn) out r.p r.hd r.bd a (RV_of hrn) h3 (hu.ari a haU r h1 h2) (hu.mem a haU).2.1 (by omega) (by omega) hne
  obtain ⟨g1,g2⟩:=q2.good (fun x hx=>hu.step r h1 x hx) hg
  obtain ⟨L',out',w1,w2,w3,w4,w5⟩:=l18i rules rn U gz qc hz i a rs hrn hu hsm hrs m (k+1) L1 (out++[⟨nameT a.1 a.2,r.hd,body⟩]) (by omega) g1 (pre_get g2 ha) (by simp;omega)
  have hx:(L.map adA)[0+Int.toNat (i:Int)]? =some (.agg [.str a.1,.str a.2]):=by rw [Nat.zero_add,Int.toNat_natCast,List.getElem?_map,ha];rfl
  obtain ⟨e,t,⟨rfl,rfl⟩,h⟩:=t18i L rn (rvOf rules rn) out gz qc hz i L1 (out++[(⟨nameT a.1 a.2,r.hd,body⟩:Ru)]) a r rs k hlt hsm hi ⟨by omega,get_of Ru.av hr⟩ hx q3
  refine ⟨L',out',.cons q1 q2 w1,w2,g2.trans w3,by rw [w4];simp;omega,.turn (h.pre (openQ 153 L (rn.map AV.str) (rvOf rules rn) out gz _ hne)) w5⟩
theorem l18o (rules:List Ru) (rn:List ByteArray) (U:List Ad) (gz qc:List AV) (hz:noIdsL gz=true) (hrn:RN rules rn) (hu:UOK rules rn U) (hsm:rules.length≤2000000) (hs:∀r,r∈rules→smallR r.p r.hd r.bd):∀(m i:Nat) (L:List Ad) (out:List Ru),U.length≤i+m→i≤L.length→Good U L→out.length+m*2000001<900000000→
  ∃(L':List Ad) (out':List Ru),Ads rules rn i L out L' out'∧Good U L'∧L<+:L'∧out'.length<900000000∧Lo 153 (loopOf Tryz.f18 1) ⟨[Z2k5,(8,.tptr qc),Z2k6,Z2k7 i],(4,.var gz)::wq L (rn.map AV.str) (rvOf rules rn) out⟩ (.exit 2) ⟨[Z2k5,(8,.tptr qc),Z2k6],(4,.var gz)::wq L' (rn.map AV.str) (rvOf rules rn) out'⟩:=by
 have stop:∀(L:List Ad) (out:List Ru),Good U L→out.length<900000000→∃(L':List Ad) (out':List Ru),Ads rules rn L.length L out L' out'∧Good U L'∧L<+:L'∧out'.length<900000000∧Lo 153 (loopOf Tryz.f18 1) ⟨[Z2k5,(8,.tptr qc),Z2k6,(12,.int .i64 ((L.length:Nat):Int))],(4,.var gz)::wq L (rn.map AV.str) (rvOf rules rn) out⟩ (.exit 2) ⟨[Z2k5,(8,.tptr qc),Z2k6],(4,.var gz)::wq L' (rn.map AV.str) (rvOf rules rn) out'⟩:=by
  intro L out hg ho
  obtain ⟨e,t,⟨rfl,rfl⟩,h⟩:=z18 L rn (rvOf rules rn) out gz qc hz L.length (List.length_map ..) rfl
  exact ⟨L,out,.stop L out,hg,List.prefix_refl L,ho,.leave h (by simp)⟩
 have e3:sndC (loopOf Tryz.f18 1)= .seq (.block 3 (.seq (.seq (regOf Tryz.f18 87) (.block 4 (.loop (loopOf Tryz.f18 2)))) (regOf Tryz.f18 118))) (regOf Tryz.f18 85):=by kernel_rfl
 intro m
 induction m with
 |zero=>
  intro i L out hUm hi hg ho
  have hLl:=hg.len
  have:i=L.length:=by omega
  subst this
  exact stop L out hg (by omega)
 |succ m ih=>
  intro i L out hUm hi hg ho
  by_cases hie:i=L.length
  ·subst hie
   exact stop L out hg (by omega)
  ·have hlt:i<L.length:=by omega
   have ha:L[i]? =some L[i]:=List.getElem?_eq_getElem hlt
   generalize L[i]=a at ha
   have hne:L≠[]:=by rintro rfl;simp at hlt
   have haU:=hg.2 a (List.mem_of_getElem? ha)
   have hLl:=hg.len
   have huf:=hu.few
   obtain ⟨u1,u2,u3⟩:=hu.mem a haU
   have hrl:(rulesOf rules a.1).length≤rules.length:=List.length_filter_le ..
   obtain ⟨L1,out1,w1,w2,w3,w4,w5⟩:=l18i rules rn U gz qc hz i a (rulesOf rules a.1) hrn hu (by omega) (fun r hr=>⟨(mem_rulesOf.1 hr).1,(mem_rulesOf.1 hr).2,hs r (mem_rulesOf.1 hr).1⟩) (rulesOf rules a.1).length 0 L out (by omega) hg ha (by omega)
   rw [List.drop_zero] at w1
   have ha1:=pre_get w3 ha
   have hlt1:i<L1.length:=(List.getElem?_eq_some_iff.1 ha1).1
   have hne1:L1≠[]:=by rintro rfl;simp at hlt1
   have hL1:=w2.len
   have hx:∀{M:List Ad},M[i]? =some a→(M.map adA)[0+Int.toNat (i:Int)]? =some (.agg [.str a.1,.str a.2]):=fun {M} h=>by rw [Nat.zero_add,Int.toNat_natCast,List.getElem?_map,h];rfl
   obtain ⟨L',out',x1,x2,x3,x4,x5⟩:=ih (i+1) L1 (out1++[gRu a]) (by omega) (by omega) w2 (by simp;omega)
   refine ⟨L',out',.go ha w1 x1,x2,w3.trans x3,x4,.turn ?_ x5⟩
   obtain ⟨j,hf,hj⟩:=findA_some (i:=0) u1
   rw [Nat.zero_add] at hf
   have hrj:(rvOf rules rn)[j]? =some (.seq ((rulesOf rules a.1).map Ru.av) false):=by
    unfold rvOf
    rw [List.getElem?_map,hj];rfl
   obtain ⟨e,t,⟨rfl,rfl⟩,c0⟩:=h18 L rn (rvOf rules rn) out gz qc hz i (List.length_map ..) hlt
   obtain ⟨e,t,⟨rfl,rfl⟩,c1⟩:=r18a L rn (rvOf rules rn) out gz qc hz i a (rulesOf rules a.1) hlt (hx ha) ⟨j,hf,hrj⟩
   have c1':=(c1.pre (openQ 153 L (rn.map AV.str) (rvOf rules rn) out gz _ hne)).post (closeQ 153 L (rn.map AV.str) (rvOf rules rn) out gz _ hne)
   have c1d:=c1'.keepR [4,8,9,12,100,101,102] [(4,.keep 4 true),(32,.keep 32 false),(33,.keep 33 true)] (st':=⟨[Z2k5,(8,.tptr qc),Z2k6,Z2k7 i,(100,.seq ((rulesOf rules a.1).map Ru.av) false),(101,.int .i64 (((rulesOf rules a.1).map Ru.av).length:Nat)),(102,.int .i64 0)],(4,.var gz)::wq L (rn.map AV.str) (rvOf rules rn) out⟩) (cs:=[noIdsL gz=true,noIdsL (L.map adA)=true∧noIdsL (ixs L.length)=true]) rfl ⟨hz,⟨noIdsL_ads L,noIdsL_ixs _⟩,trivial⟩
   have c2:=(Loops.runs w5).exitBlk
   obtain ⟨e,t,⟨rfl,rfl⟩,c3⟩:=r18b L1 rn (rvOf rules rn) out1 gz qc hz i (out1++[gRu a]) a hlt1 (hx ha1) (q48 L1 rn (rvOf rules rn) out1 a (by omega) u3 (by omega) hne1)
   have c3':=c3.pre (openQ 153 L1 (rn.map AV.str) (rvOf rules rn) out1 gz _ hne1)
   obtain ⟨e,t,⟨rfl,rfl⟩,c4⟩:=r18c L1 rn (rvOf rules rn) (out1++[gRu a]) gz qc hz i hlt1 (by omega)
   refine Runs.cut (by kernel_rfl) c0 ?_
   rw [e3]
   exact ((c1d.seq c2).seq c3').blk.seq c4
abbrev Z2l0 (rules:List Ru):Nat×AV:=(0,.seq (rules.map Ru.av) false)
abbrev Z2l1 (p:ByteArray) (ts:List Tm):Nat×AV:=(3,.tptr [.str p,.seq (ts.map Tm.av) false])
abbrev Z2l2:Nat×AV:=(4,.elt 4 0 0)
abbrev Z2l3:Nat×Ob:=(4,.var [.nils,.str ⟨#[]⟩,.nils,.nils])
abbrev Z2l5 (rules:List Ru) (p:ByteArray) (ts:List Tm):St:=⟨[Z2l0 rules,Z2l1 p ts,Z2l2],[Z2l3]⟩
theorem w18a (rules:List Ru) (p:ByteArray) (ts:List Tm):EN 153 (partC 0 (bodyOf Tryz.f18)) ⟨[Z2l0 rules,(1,atA p ts)],[]⟩ (Z2l5 rules p ts):=by
 exact gE ⟨rfl,rfl⟩ 0 [] [0,3,4] [(3,.freeze),(4,.keep 4 true)] (aC2 rT rT)
theorem b18e (rules:List Ru) (p:ByteArray) (ts:List Tm) (rc:Int) (hne:(!decide (rc=0))=true) (k44:Sp 44 [.seq (rules.map Ru.av) false,atA p ts] [] (.int .i64 rc) []):En 153 (restC 1 (bodyOf Tryz.f18)) (Z2l5 rules p ts) (fun e t=>e= .ret∧t=⟨[Z2l2,(5,.nils),(6,.int .i64 rc)],[Z2l3]⟩):=by
 exact gE ⟨rfl,rfl⟩ 0 [.call (.int .i64 rc) [] [],.is true] [4,5,6] [(4,.keep 4 true)] (aC3 k44 hne rT)
theorem w18b (rules:List Ru) (p:ByteArray) (ts:List Tm) (k44:Sp 44 [.seq (rules.map Ru.av) false,atA p ts] [] (.int .i64 0) []):EN 153 (partC 1 (bodyOf Tryz.f18)) (Z2l5 rules p ts) (Z2l5 rules p ts):=by
 have hs0:=k44
 exact gE ⟨rfl,rfl⟩ 0 [.call (.int .i64 0) [] [],.is false] [0,3,4] [(4,.keep 4 true)] (aC3 hs0 (show false=false from rfl) rT)
abbrev Z2l4 (p:ByteArray) (ts:List Tm):Nat×Ob:=(8,.var [.str p,.seq (ts.map Tm.av) false])
theorem w18c (rules:List Ru) (p:ByteArray) (ts:List Tm) (hts:ts.length≤24):EN 153 (partC 2 (bodyOf Tryz.f18)) (Z2l5 rules p ts) ⟨[Z2l0 rules,Z2l1 p ts,Z2l2,(8,.elt 8 0 0)],[Z2l3,Z2l4 p ts]⟩:=by
 have hs0:=k45 ts (by omega)
 exact gE ⟨rfl,rfl⟩ 0 [.call (.seq (ts.map Tm.av) false) [] []] [0,3,4,8] [(4,.keep 4 true),(8,.keep 8 true)] (aC3 hs0 rT rT)
theorem w18d (rules:List Ru) (p:ByteArray) (ts:List Tm):EN 153 (partC 3 (bodyOf Tryz.f18)) ⟨[Z2l0 rules,Z2l1 p ts,Z2l2,(8,.elt 8 0 0)],[Z2l3,Z2l4 p ts]⟩ ⟨[Z2l0 rules,Z2l1 p ts,Z2l2,(8,.elt 8 0 0),(9,.elt 32 0 0)],[Z2l3,Z2l4 p ts,(30,.map [] []),(32,.var [.nils,.nilmap,.map 30,.nils])]⟩:=by
 exact gE ⟨rfl,rfl⟩ 0 [] [0,3,4,8,9] [(4,.keep 4 true),(8,.keep 8 true),(30,.keep 30 true),(32,.keep 32 false)] (aC3 rT rT (show true=true∧true=true from by simp))
theorem ev18 {n base:Nat} {c:Code} {sc:List Dir} {st st':St} {e:Out} (cs:List Prop) (h:(evalC Proofs.Tryz.prog n base c sc st).map (fun x=>(x.1,x.2.1,x.2.2.1.map Cond.p,x.2.2.2))=some (e,st',cs,[])) (hc:allP cs):Runs Proofs.Tryz.prog n c st e st':=by
 cases he:evalC Proofs.Tryz.prog n base c sc st with
 |none=>rw [he] at h;cases h
 |some x=>
  obtain ⟨e1,s1,c1,d1⟩:=x
  rw [he] at h
  simp only [Option.map_some,Option.some.injEq,Prod.mk.injEq] at h
  obtain ⟨rfl,rfl,rfl,rfl⟩:=h
  exact evalC_sound Tryz_mix c he fun q hq=>allP_mem hc q.p (List.mem_map.2 ⟨q,hq,rfl⟩)
theorem set_lastQ {α:Type} (l:List α) (x y:α):(l++[x]).set l.length y=l++[y]:=by
 induction l with
 |nil=>rfl
 |cons a l ih=>simp [ih]
theorem m18n (rules:List Ru) (p:ByteArray) (ts:List Tm) (rn:List ByteArray) (vs:List AV) (hv:noIdsL vs=true) (y:Ru) (i:Nat) (hf:findA true (.str y.p) (rn.map AV.str) 0=some none):Rz 153 (regOf Tryz.f18 39) ⟨[(3,.tptr [.str p,.seq (ts.map Tm.av) false]),(4,.elt 4 0 0),(8,.elt 8 0 0),(9,.elt 32 0 0),(11,.elt 11 0 0),(33,.seq (rules.map Ru.av) false),(34,.int .i64 ((rules.map Ru.av).length:Nat)),(35,.int .i64 (i:Int))],[(4,.var [.nils,.str ⟨#[]⟩,.nils,.nils]),(8,.var [.str p,.seq (ts.map Tm.av) false]),(30,.map (rn.map AV.str) vs),(32,.var [.own 2 [],.nilmap,.map 30,.own 3 []]),(11,.var [.str y.p,.seq (y.hd.map Ar.av) false,.seq (y.bd.map Li.av) false])]⟩ .normal ⟨[(3,.tptr [.str p,.seq (ts.map Tm.av) false]),(4,.elt 4 0 0),(8,.elt 8 0 0),(9,.elt 32 0 0),(33,.seq (rules.map Ru.av) false),(34,.int .i64 ((rules.map Ru.av).length:Nat)),(35,.int .i64 (i:Int))],[(4,.var [.nils,.str ⟨#[]⟩,.nils,.nils]),(8,.var [.str p,.seq (ts.map Tm.av) false]),(30,.map ((rn++[y.p]).map AV.str) (vs++[.own 3 [y.av]])),(32,.var [.own 2 [],.nilmap,.map 30,.own 3 []])]⟩:=by
 have h:Rz 153 (regOf Tryz.f18 39) ⟨[(3,.tptr [.str p,.seq (ts.map Tm.av) false]),(4,.elt 4 0 0),(8,.elt 8 0 0),(9,.elt 32 0 0),(11,.elt 11 0 0),(33,.seq (rules.map Ru.av) false),(34,.int .i64 ((rules.map Ru.av).length:Nat)),(35,.int .i64 (i:Int))],[(4,.var [.nils,.str ⟨#[]⟩,.nils,.nils]),(8,.var [.str p,.seq (ts.map Tm.av) false]),(30,.map (rn.map AV.str) vs),(32,.var [.own 2 [],.nilmap,.map 30,.own 3 []]),(11,.var [.str y.p,.seq (y.hd.map Ar.av) false,.seq (y.bd.map Li.av) false])]⟩ .normal ⟨[(3,.tptr [.str p,.seq (ts.map Tm.av) false]),(4,.elt 4 0 0),(8,.elt 8 0 0),(9,.elt 32 0 0),(11,.elt 11 0 0),(33,.seq (rules.map Ru.av) false),(34,.int .i64 ((rules.map Ru.av).length:Nat)),(35,.int .i64 (i:Int)),(39,.elt 32 0 0),(40,.elt 32 0 0),(41,.elt 32 0 2),(42,.map 30),(43,.elt 11 0 0),(44,.str y.p),(45,.elt 32 0 0),(46,.elt 32 0 0),(47,.elt 32 0 2),(48,.map 30),(49,.elt 11 0 0),(50,.str y.p),(51,.nils),(52,.agg [.str y.p,.seq (y.hd.map Ar.av) false,.seq (y.bd.map Li.av) false]),(53,.row 53 0 1),(54,.row 54 0 (0+[AV.agg [.str y.p,.seq (y.hd.map Ar.av) false,.seq (y.bd.map Li.av) false]].length))],[(4,.var [.nils,.str ⟨#[]⟩,.nils,.nils]),(8,.var [.str p,.seq (ts.map Tm.av) false]),(30,.map (rn.map AV.str++[.str y.p]) (vs++[.row 54 0 (0+[AV.agg [.str y.p,.seq (y.hd.map Ar.av) false,.seq (y.bd.map Li.av) false]].length)])),(32,.var [.own 2 [],.nilmap,.map 30,.own 3 []]),(11,.var [.str y.p,.seq (y.hd.map Ar.av) false,.seq (y.bd.map Li.av) false]),(53,.row 3 [.agg [.str y.p,.seq (y.hd.map Ar.av) false,.seq (y.bd.map Li.av) false]]),(54,.row 3 [.agg [.str y.p,.seq (y.hd.map Ar.av) false,.seq (y.bd.map Li.av) false]])]⟩:=
  ev18 (base:=0) (sc:=[.is false,.is true,.is false]) [findA true (.str y.p) (rn.map AV.str) 0=some none,1≤[AV.agg [.str y.p,.seq (y.hd.map Ar.av) false,.seq (y.bd.map Li.av) false]].length∧[AV.agg [.str y.p,.seq (y.hd.map Ar.av) false,.seq (y.bd.map Li.av) false]]≠[]∧(∀e,e∈[AV.agg [.str y.p,.seq (y.hd.map Ar.av) false,.seq (y.bd.map Li.av) false]]→okE 3 e)∧(∀e,e∈([]:List AV)→okE 3 e)∧((0+[AV.agg [.str y.p,.seq (y.hd.map Ar.av) false,.seq (y.bd.map Li.av) false]].length:Nat):Int)*64≤140737488355328∧0+[AV.agg [.str y.p,.seq (y.hd.map Ar.av) false,.seq (y.bd.map Li.av) false]].length≤9223372036854775807,findA true (.str y.p) (rn.map AV.str) 0=some none]
   (by kernel_rfl) ⟨hf,⟨by simp,by simp,ok_rus [y],by simp,by simp,by simp⟩,hf,trivial⟩
 have h2:=h.post (le_close (n:=153) (st:=⟨[(3,.tptr [.str p,.seq (ts.map Tm.av) false]),(4,.elt 4 0 0),(8,.elt 8 0 0),(9,.elt 32 0 0),(11,.elt 11 0 0),(33,.seq (rules.map Ru.av) false),(34,.int .i64 ((rules.map Ru.av).length:Nat)),(35,.int .i64 (i:Int)),(39,.elt 32 0 0),(40,.elt 32 0 0),(41,.elt 32 0 2),(42,.map 30),(43,.elt 11 0 0),(44,.str y.p),(45,.elt 32 0 0),(46,.elt 32 0 0),(47,.elt 32 0 2),(48,.map 30),(49,.elt 11 0 0),(50,.str y.p),(51,.nils),(52,.agg [.str y.p,.seq (y.hd.map Ar.av) false,.seq (y.bd.map Li.av) false]),(53,.row 53 0 1),(54,.row 54 0 (0+[AV.agg [.str y.p,.seq (y.hd.map Ar.av) false,.seq (y.bd.map Li.av) false]].length))],[(4,.var [.nils,.str ⟨#[]⟩,.nils,.nils]),(8,.var [.str p,.seq (ts.map Tm.av) false]),(30,.map (rn.map AV.str++[.str y.p]) (vs++[.row 54 0 (0+[AV.agg [.str y.p,.seq (y.hd.map Ar.av) false,.seq (y.bd.map Li.av) false]].length)])),(32,.var [.own 2 [],.nilmap,.map 30,.own 3 []]),(11,.var [.str y.p,.seq (y.hd.map Ar.av) false,.seq (y.bd.map Li.av) false]),(53,.row 3 [.agg [.str y.p,.seq (y.hd.map Ar.av) false,.seq (y.bd.map Li.av) false]]),(54,.row 3 [.agg [.str y.p,.seq (y.hd.map Ar.av) false,.seq (y.bd.map Li.av) false]])]⟩) 30 vs.length 54 (o:= .map (rn.map AV.str++[.str y.p]) (vs++[.row 54 0 (0+[AV.agg [.str y.p,.seq (y.hd.map Ar.av) false,.seq (y.bd.map Li.av) false]].length)])) (sz:=3) (m:=0+[AV.agg [.str y.p,.seq (y.hd.map Ar.av) false,.seq (y.bd.map Li.av) false]].length) (es:=[.agg [.str y.p,.seq (y.hd.map Ar.av) false,.seq (y.bd.map Li.av) false]]) rfl (by simp [Ob.at]) rfl (by simp) (by simp) (noIdsL_rus' [y]) (by simp [mid]))
 have e:(Ob.map (rn.map AV.str++[.str y.p]) (vs++[.row 54 0 (0+[AV.agg [.str y.p,.seq (y.hd.map Ar.av) false,.seq (y.bd.map Li.av) false]].length)])).set vs.length (.own 3 ([AV.agg [.str y.p,.seq (y.hd.map Ar.av) false,.seq (y.bd.map Li.av) false]].take (0+[AV.agg [.str y.p,.seq (y.hd.map Ar.av) false,.seq (y.bd.map Li.av) false]].length)))= .map ((rn++[y.p]).map AV.str) (vs++[.own 3 [y.av]]):=by
  show Ob.map _ _=_
  rw [set_lastQ,List.map_append];rfl
 rw [e] at h2
 refine h2.keepR [3,4,8,9,33,34,35] [(4,.keep 4 true),(8,.keep 8 true),(30,.keep 30 true),(32,.keep 32 false)] (cs:=[noIdsL [.nils,.str ⟨#[]⟩,.nils,.nils]=true,noIdsL [.str p,.seq (ts.map Tm.av) false]=true,noIdsL ((rn++[y.p]).map AV.str)=true∧noIdsL (vs++[.own 3 [y.av]])=true]) rfl ⟨rfl,rfl,⟨noIdsL_strs _,by rw [noIdsL_app,hv];rfl⟩,trivial⟩
theorem m18o (rules:List Ru) (p:ByteArray) (ts:List Tm) (rn:List ByteArray) (vs:List AV) (hv:noIdsL vs=true) (y:Ru) (i j:Nat) (l:List Ru) (hl:l.length<1000000000) (hne:l≠[]) (hf:findA true (.str y.p) (rn.map AV.str) 0=some (some j)) (hrj:rn[j]? =some y.p) (hvj:vs[j]? =some (.own 3 (l.map Ru.av))):Rz 153 (regOf Tryz.f18 39) ⟨[(3,.tptr [.str p,.seq (ts.map Tm.av) false]),(4,.elt 4 0 0),(8,.elt 8 0 0),(9,.elt 32 0 0),(11,.elt 11 0 0),(33,.seq (rules.map Ru.av) false),(34,.int .i64 ((rules.map Ru.av).length:Nat)),(35,.int .i64 (i:Int))],[(4,.var [.nils,.str ⟨#[]⟩,.nils,.nils]),(8,.var [.str p,.seq (ts.map Tm.av) false]),(30,.map (rn.map AV.str) vs),(32,.var [.own 2 [],.nilmap,.map 30,.own 3 []]),(11,.var [.str y.p,.seq (y.hd.map Ar.av) false,.seq (y.bd.map Li.av) false])]⟩ .normal ⟨[(3,.tptr [.str p,.seq (ts.map Tm.av) false]),(4,.elt 4 0 0),(8,.elt 8 0 0),(9,.elt 32 0 0),(33,.seq (rules.map Ru.av) false),(34,.int .i64 ((rules.map Ru.av).length:Nat)),(35,.int .i64 (i:Int))],[(4,.var [.nils,.str ⟨#[]⟩,.nils,.nils]),(8,.var [.str p,.seq (ts.map Tm.av) false]),(30,.map (rn.map AV.str) (vs.set j (.own 3 ((l++[y]).map Ru.av)))),(32,.var [.own 2 [],.nilmap,.map 30,.own 3 []])]⟩:=by
 have hj:j<vs.length:=(List.getElem?_eq_some_iff.1 hvj).1
 have h:Rz 153 (regOf Tryz.f18 39) ⟨[(3,.tptr [.str p,.seq (ts.map Tm.av) false]),(4,.elt 4 0 0),(8,.elt 8 0 0),(9,.elt 32 0 0),(11,.elt 11 0 0),(33,.seq (rules.map Ru.av) false),(34,.int .i64 ((rules.map Ru.av).length:Nat)),(35,.int .i64 (i:Int))],[(4,.var [.nils,.str ⟨#[]⟩,.nils,.nils]),(8,.var [.str p,.seq (ts.map Tm.av) false]),(30,.map (rn.map AV.str) (vs.set j (.row 70 0 (l.map Ru.av).length))),(32,.var [.own 2 [],.nilmap,.map 30,.own 3 []]),(11,.var [.str y.p,.seq (y.hd.map Ar.av) false,.seq (y.bd.map Li.av) false]),(70,.row 3 (l.map Ru.av))]⟩ .normal ⟨[(3,.tptr [.str p,.seq (ts.map Tm.av) false]),(4,.elt 4 0 0),(8,.elt 8 0 0),(9,.elt 32 0 0),(11,.elt 11 0 0),(33,.seq (rules.map Ru.av) false),(34,.int .i64 ((rules.map Ru.av).length:Nat)),(35,.int .i64 (i:Int)),(39,.elt 32 0 0),(40,.elt 32 0 0),(41,.elt 32 0 2),(42,.map 30),(43,.elt 11 0 0),(44,.str y.p),(45,.elt 32 0 0),(46,.elt 32 0 0),(47,.elt 32 0 2),(48,.map 30),(49,.elt 11 0 0),(50,.str y.p),(51,.row 70 0 (l.map Ru.av).length),(52,.agg [.str y.p,.seq (y.hd.map Ar.av) false,.seq (y.bd.map Li.av) false]),(53,.row 53 0 1),(54,.row 54 0 ((l.map Ru.av).length+[AV.agg [.str y.p,.seq (y.hd.map Ar.av) false,.seq (y.bd.map Li.av) false]].length))],[(4,.var [.nils,.str ⟨#[]⟩,.nils,.nils]),(8,.var [.str p,.seq (ts.map Tm.av) false]),(30,.map ((rn.map AV.str).set (Int.toNat (j:Int)) (.str y.p)) ((vs.set j (.row 70 0 (l.map Ru.av).length)).set (Int.toNat (j:Int)) (.row 54 0 ((l.map Ru.av).length+[AV.agg [.str y.p,.seq (y.hd.map Ar.av) false,.seq (y.bd.map Li.av) false]].length)))),(32,.var [.own 2 [],.nilmap,.map 30,.own 3 []]),(11,.var [.str y.p,.seq (y.hd.map Ar.av) false,.seq (y.bd.map Li.av) false]),(70,.dead),(53,.row 3 [.agg [.str y.p,.seq (y.hd.map Ar.av) false,.seq (y.bd.map Li.av) false]]),(54,.row 3 (l.map Ru.av++[.agg [.str y.p,.seq (y.hd.map Ar.av) false,.seq (y.bd.map Li.av) false]]))]⟩:=
  ev18 (base:=0) (sc:=[.elt (.row 70 0 (l.map Ru.av).length),.is true,.elt (.int .i64 j)]) [∃j',findA true (.str y.p) (rn.map AV.str) 0=some (some j')∧(vs.set j (.row 70 0 (l.map Ru.av).length))[j']? =some (.row 70 0 (l.map Ru.av).length),1≤[AV.agg [.str y.p,.seq (y.hd.map Ar.av) false,.seq (y.bd.map Li.av) false]].length∧(0:Nat)=0∧(l.map Ru.av).length=(l.map Ru.av).length∧(∀e,e∈[AV.agg [.str y.p,.seq (y.hd.map Ar.av) false,.seq (y.bd.map Li.av) false]]→okE 3 e)∧(∀e,e∈l.map Ru.av→okE 3 e)∧((((l.map Ru.av).length+[AV.agg [.str y.p,.seq (y.hd.map Ar.av) false,.seq (y.bd.map Li.av) false]].length):Nat):Int)*64≤140737488355328∧((l.map Ru.av).length+[AV.agg [.str y.p,.seq (y.hd.map Ar.av) false,.seq (y.bd.map Li.av) false]].length)≤9223372036854775807,findA true (.str y.p) (rn.map AV.str) 0=some (some (Int.toNat (j:Int)))]
   (by kernel_rfl) ⟨⟨j,hf,by rw [List.getElem?_set_self hj]⟩,⟨by simp,rfl,rfl,ok_rus [y],ok_rus l,by simp;omega,by simp;omega⟩,by rw [Int.toNat_natCast];exact hf,trivial⟩
 have h0:=h.pre (le_open (n:=153) (st:=⟨[(3,.tptr [.str p,.seq (ts.map Tm.av) false]),(4,.elt 4 0 0),(8,.elt 8 0 0),(9,.elt 32 0 0),(11,.elt 11 0 0),(33,.seq (rules.map Ru.av) false),(34,.int .i64 ((rules.map Ru.av).length:Nat)),(35,.int .i64 (i:Int))],[(4,.var [.nils,.str ⟨#[]⟩,.nils,.nils]),(8,.var [.str p,.seq (ts.map Tm.av) false]),(30,.map (rn.map AV.str) vs),(32,.var [.own 2 [],.nilmap,.map 30,.own 3 []]),(11,.var [.str y.p,.seq (y.hd.map Ar.av) false,.seq (y.bd.map Li.av) false])]⟩) 30 j 70 (o:= .map (rn.map AV.str) vs) (sz:=3) (es:=l.map Ru.av) rfl hvj (by simpa using hne) rfl (by simp [mid]))
 have hat:(Ob.map ((rn.map AV.str).set (Int.toNat (j:Int)) (.str y.p)) ((vs.set j (.row 70 0 (l.map Ru.av).length)).set (Int.toNat (j:Int)) (.row 54 0 ((l.map Ru.av).length+[AV.agg [.str y.p,.seq (y.hd.map Ar.av) false,.seq (y.bd.map Li.av) false]].length)))).at j=some (.row 54 0 ((l.map Ru.av).length+[AV.agg [.str y.p,.seq (y.hd.map Ar.av) false,.seq (y.bd.map Li.av) false]].length)):=by
  show ((vs.set j (.row 70 0 (l.map Ru.av).length)).set (Int.toNat (j:Int)) (.row 54 0 ((l.map Ru.av).length+[AV.agg [.str y.p,.seq (y.hd.map Ar.av) false,.seq (y.bd.map Li.av) false]].length)))[j]? =_
  rw [Int.toNat_natCast,List.getElem?_set_self (by rw [List.length_set];exact hj)]
 have h2:=h0.post (le_close (n:=153) (st:=⟨[(3,.tptr [.str p,.seq (ts.map Tm.av) false]),(4,.elt 4 0 0),(8,.elt 8 0 0),(9,.elt 32 0 0),(11,.elt 11 0 0),(33,.seq (rules.map Ru.av) false),(34,.int .i64 ((rules.map Ru.av).length:Nat)),(35,.int .i64 (i:Int)),(39,.elt 32 0 0),(40,.elt 32 0 0),(41,.elt 32 0 2),(42,.map 30),(43,.elt 11 0 0),(44,.str y.p),(45,.elt 32 0 0),(46,.elt 32 0 0),(47,.elt 32 0 2),(48,.map 30),(49,.elt 11 0 0),(50,.str y.p),(51,.row 70 0 (l.map Ru.av).length),(52,.agg [.str y.p,.seq (y.hd.map Ar.av) false,.seq (y.bd.map Li.av) false]),(53,.row 53 0 1),(54,.row 54 0 ((l.map Ru.av).length+[AV.agg [.str y.p,.seq (y.hd.map Ar.av) false,.seq (y.bd.map Li.av) false]].length))],[(4,.var [.nils,.str ⟨#[]⟩,.nils,.nils]),(8,.var [.str p,.seq (ts.map Tm.av) false]),(30,.map ((rn.map AV.str).set (Int.toNat (j:Int)) (.str y.p)) ((vs.set j (.row 70 0 (l.map Ru.av).length)).set (Int.toNat (j:Int)) (.row 54 0 ((l.map Ru.av).length+[AV.agg [.str y.p,.seq (y.hd.map Ar.av) false,.seq (y.bd.map Li.av) false]].length)))),(32,.var [.own 2 [],.nilmap,.map 30,.own 3 []]),(11,.var [.str y.p,.seq (y.hd.map Ar.av) false,.seq (y.bd.map Li.av) false]),(70,.dead),(53,.row 3 [.agg [.str y.p,.seq (y.hd.map Ar.av) false,.seq (y.bd.map Li.av) false]]),(54,.row 3 (l.map Ru.av++[.agg [.str y.p,.seq (y.hd.map Ar.av) false,.seq (y.bd.map Li.av) false]]))]⟩) 30 j 54 (sz:=3) (m:=((l.map Ru.av).length+[AV.agg [.str y.p,.seq (y.hd.map Ar.av) false,.seq (y.bd.map Li.av) false]].length)) (es:=l.map Ru.av++[AV.agg [.str y.p,.seq (y.hd.map Ar.av) false,.seq (y.bd.map Li.av) false]]) rfl hat rfl (by simp) (by simp) (by
  rw [List.take_of_length_le (by simp),noIdsL_app,noIdsL_rus'];exact noIdsL_rus' [y]) (by simp [mid]))
 have e:(Ob.map ((rn.map AV.str).set (Int.toNat (j:Int)) (.str y.p)) ((vs.set j (.row 70 0 (l.map Ru.av).length)).set (Int.toNat (j:Int)) (.row 54 0 ((l.map Ru.av).length+[AV.agg [.str y.p,.seq (y.hd.map Ar.av) false,.seq (y.bd.map Li.av) false]].length)))).set j (.own 3 ((l.map Ru.av++[AV.agg [.str y.p,.seq (y.hd.map Ar.av) false,.seq (y.bd.map Li.av) false]]).take ((l.map Ru.av).length+[AV.agg [.str y.p,.seq (y.hd.map Ar.av) false,.seq (y.bd.map Li.av) false]].length)))= .map (rn.map AV.str) (vs.set j (.own 3 ((l++[y]).map Ru.av))):=by
  show Ob.map _ ((((vs.set j (.row 70 0 (l.map Ru.av).length)).set (Int.toNat (j:Int)) (.row 54 0 ((l.map Ru.av).length+[AV.agg [.str y.p,.seq (y.hd.map Ar.av) false,.seq (y.bd.map Li.av) false]].length)))).set j _)=_
  rw [Int.toNat_natCast,List.set_set,List.set_set,List.take_of_length_le (by simp),List.map_append,set_self (l:=rn.map AV.str) (by rw [List.getElem?_map,hrj];rfl)]
  rfl
 rw [e] at h2
 exact h2.keepR [3,4,8,9,33,34,35] [(4,.keep 4 true),(8,.keep 8 true),(30,.keep 30 true),(32,.keep 32 false)] (cs:=[noIdsL [.nils,.str ⟨#[]⟩,.nils,.nils]=true,noIdsL [.str p,.seq (ts.map Tm.av) false]=true,noIdsL (rn.map AV.str)=true∧noIdsL (vs.set j (.own 3 ((l++[y]).map Ru.av)))=true]) rfl ⟨rfl,rfl,⟨noIdsL_strs _,noIdsL_set hv rfl⟩,trivial⟩
abbrev Z2m0 (p:ByteArray) (ts:List Tm):Nat×AV:=(3,.tptr [.str p,.seq (ts.map Tm.av) false])
abbrev Z2m1:Nat×AV:=(4,.elt 4 0 0)
abbrev Z2m2:Nat×AV:=(8,.elt 8 0 0)
abbrev Z2m3:Nat×AV:=(9,.elt 32 0 0)
abbrev Z2m4 (rules:List Ru):Nat×AV:=(33,.seq (rules.map Ru.av) false)
abbrev Z2m5 (rules:List Ru):Nat×AV:=(34,.int .i64 ((rules.map Ru.av).length:Nat))
abbrev Z2m6 (i:Nat):Nat×AV:=(35,.int .i64 (i:Int))
abbrev Z2m7:Nat×Ob:=(4,.var [.nils,.str ⟨#[]⟩,.nils,.nils])
abbrev Z2m8 (p:ByteArray) (ts:List Tm):Nat×Ob:=(8,.var [.str p,.seq (ts.map Tm.av) false])
abbrev Z2m9 (rn:List ByteArray) (vs:List AV):Nat×Ob:=(30,.map (rn.map AV.str) vs)
abbrev Z2ma:Nat×Ob:=(32,.var [.own 2 [],.nilmap,.map 30,.own 3 []])
abbrev Z2mb:Nat×Ob:=(4,.var [.nils,.str (ByteArray.mk #[]),.nils,.nils])
theorem t18m (rules:List Ru) (p:ByteArray) (ts:List Tm) (rn rn2:List ByteArray) (vs vs2:List AV) (hv:noIdsL vs=true) (hv2:noIdsL vs2=true) (y:Ru) (i:Nat) (hi:i<rules.length) (hsm:rules.length≤2000000) (hx:0≤(i:Int)∧(rules.map Ru.av)[Int.toNat (i:Int)]? =some y.av) (pr18_39p:Rz 153 (regOf Tryz.f18 39) ⟨[Z2m0 p ts,Z2m1,Z2m2,Z2m3,(11,.elt 11 0 0),Z2m4 rules,Z2m5 rules,Z2m6 i],[Z2m7,Z2m8 p ts,Z2m9 rn vs,Z2ma,(11,.var [.str y.p,.seq (y.hd.map Ar.av) false,.seq (y.bd.map Li.av) false])]⟩ .normal ⟨[Z2m0 p ts,Z2m1,Z2m2,Z2m3,Z2m4 rules,Z2m5 rules,Z2m6 i],[Z2m7,Z2m8 p ts,(30,.map (rn2.map AV.str) vs2),Z2ma]⟩):EN 153 (loopOf Tryz.f18 0) ⟨[Z2m0 p ts,Z2m1,Z2m2,Z2m3,Z2m4 rules,Z2m5 rules,Z2m6 i],[Z2m7,Z2m8 p ts,Z2m9 rn vs,Z2ma]⟩ ⟨[Z2m0 p ts,Z2m1,Z2m2,Z2m3,Z2m4 rules,Z2m5 rules,(35,.int .i64 ((i+1:Nat):Int))],[Z2m7,Z2m8 p ts,(30,.map (rn2.map AV.str) vs2),Z2ma]⟩:=by
 have hl0:=pr18_39p
 exact gE ⟨rfl,rfl⟩ 0 [.is true,.elt (Ru.av y),.cut [3,4,8,9,11,33,34,35] [(4,.keep 4 true),(8,.keep 8 true),(30,.keep 30 true),(32,.keep 32 false),(11,.keep 11 true)],.tell 39 .normal [Z2m0 p ts,Z2m1,Z2m2,Z2m3,Z2m4 rules,(34,.int .i64 (↑(rules.map Ru.av).length:Int)),Z2m6 i] [Z2mb,Z2m8 p ts,(30,.map (rn2.map AV.str) vs2),Z2ma]] [3,4,8,9,33,34,35] [(4,.keep 4 true),(8,.keep 8 true),(30,.keep 30 true),(32,.keep 32 false)] (aC11 (show decide ((i:Int)<(↑(rules.map Ru.av).length:Int))=true from by simp;omega) hx rT rT (show noIdsL (rn.map AV.str)=true∧noIdsL vs=true from by simp;omega) rT hl0 (show IntKind.wrap .i64 ((i:Int)+1)=(i:Int)+1 from wrap64_id (by omega) (by omega)) rT rT (show noIdsL (rn2.map AV.str)=true∧noIdsL vs2=true from by simp;omega))
abbrev Z2mc (p:ByteArray) (ts:List Tm) (rn:List ByteArray) (vs:List AV):St:=⟨[Z2m0 p ts,Z2m1,Z2m2,Z2m3],[Z2m7,Z2m8 p ts,Z2m9 rn vs,Z2ma]⟩
theorem e18m (rules:List Ru) (p:ByteArray) (ts:List Tm) (rn:List ByteArray) (vs:List AV) (hv:noIdsL vs=true):En 153 (loopOf Tryz.f18 0) ⟨[Z2m0 p ts,Z2m1,Z2m2,Z2m3,Z2m4 rules,Z2m5 rules,(35,.int .i64 ((rules.length:Nat):Int))],[Z2m7,Z2m8 p ts,Z2m9 rn vs,Z2ma]⟩ (fun e t=>e= .exit 0∧t=(Z2mc p ts rn vs)):=by
 exact gE ⟨rfl,rfl⟩ 0 [.is false] [3,4,8,9] [(4,.keep 4 true),(8,.keep 8 true),(30,.keep 30 true),(32,.keep 32 false)] (aC4 (show decide ((↑rules.length:Int)<(↑(rules.map Ru.av).length:Int))=false from by simp) rT rT (show noIdsL (rn.map AV.str)=true∧noIdsL vs=true from by simp;omega))
abbrev Z2md (p:ByteArray) (ts:List Tm) (rules:List Ru):St:=⟨[Z2m0 p ts,Z2m1,Z2m2,Z2m3,Z2m4 rules,Z2m5 rules,(35,.int .i64 0)],[Z2m7,Z2m8 p ts,(30,.map [] []),Z2ma]⟩
theorem w18e (rules:List Ru) (p:ByteArray) (ts:List Tm) (rn:List ByteArray) (vs:List AV) (hv:noIdsL vs=true) (l18_0q:Lo 153 (loopOf Tryz.f18 0) (Z2md p ts rules) (.exit 0) (Z2mc p ts rn vs)):EN 153 (partC 4 (bodyOf Tryz.f18)) ⟨[(0,.seq (rules.map Ru.av) false),Z2m0 p ts,Z2m1,Z2m2,Z2m3],[Z2m7,Z2m8 p ts,(30,.map [] []),Z2ma]⟩ (Z2mc p ts rn vs):=by
 have hl0:=l18_0q
 exact gE ⟨rfl,rfl⟩ 0 [.cut [3,4,8,9,33,34,35] [(4,.keep 4 true),(8,.keep 8 true),(30,.keep 30 true),(32,.keep 32 false)],.sum (.exit 0) [Z2m0 p ts,Z2m1,Z2m2,Z2m3] [Z2mb,Z2m8 p ts,Z2m9 rn vs,Z2ma]] [3,4,8,9] [(4,.keep 4 true),(8,.keep 8 true),(30,.keep 30 true),(32,.keep 32 false)] (aC7 rT rT (show true=true∧true=true from by simp) hl0 rT rT (show noIdsL (rn.map AV.str)=true∧noIdsL vs=true from by simp;omega))
def gO (R:List Ru) (rn:List ByteArray):List AV:=rn.map fun u=> .own 3 ((rulesOf R u).map Ru.av)
theorem noIds_gO (R:List Ru) (rn:List ByteArray):noIdsL (gO R rn)=true:=noIdsL_of (fun u=>AV.own 3 ((rulesOf R u).map Ru.av)) (fun _=>rfl) rn
theorem rulesOf_app (R:List Ru) (y:Ru) (u:ByteArray):rulesOf (R++[y]) u=rulesOf R u++(if y.p=u then [y] else []):=by
 unfold rulesOf
 rw [List.filter_append]
 by_cases h:y.p=u<;>simp [h]
theorem rulesOf_nil {R:List Ru} {rn:List ByteArray} (h:RN R rn) {u:ByteArray} (hu:u∉rn):rulesOf R u=[]:=by
 cases hr:rulesOf R u with
 |nil=>rfl
 |cons a l=>
  have:a∈rulesOf R u:=by rw [hr];simp
  exact absurd ((h u).2 ⟨a,(mem_rulesOf.1 this).1,(mem_rulesOf.1 this).2⟩) hu
theorem gO_new {R:List Ru} {rn:List ByteArray} {y:Ru} (h:RN R rn) (hu:y.p∉rn):gO (R++[y]) (rn++[y.p])=gO R rn++[.own 3 [y.av]]:=by
 unfold gO
 rw [List.map_append]
 congr 1
 ·refine List.map_congr_left fun u hm=> ?_
  rw [rulesOf_app,if_neg (fun e=>hu (by rw [e];exact hm)),List.append_nil]
 ·simp only [List.map_cons,List.map_nil]
  rw [rulesOf_app,if_pos rfl,rulesOf_nil h hu];rfl
theorem nodup_get {α:Type}:∀{l:List α},l.Nodup→∀{i j:Nat} {x:α},l[i]? =some x→l[j]? =some x→i=j
 |a::l,hd,0,0,x,_,_=>rfl
 |a::l,hd,0,j+1,x,h1,h2=>by
  simp at h1 h2;subst h1
  exact absurd (List.mem_of_getElem? h2) (List.nodup_cons.1 hd).1
 |a::l,hd,i+1,0,x,h1,h2=>by
  simp at h1 h2;subst h2
  exact absurd (List.mem_of_getElem? h1) (List.nodup_cons.1 hd).1
 |a::l,hd,i+1,j+1,x,h1,h2=>by
  simp at h1 h2
  rw [nodup_get (List.nodup_cons.1 hd).2 h1 h2]
theorem gO_old {R:List Ru} {rn:List ByteArray} {y:Ru} {j:Nat} (hn:rn.Nodup) (hj:rn[j]? =some y.p):gO (R++[y]) rn=(gO R rn).set j (.own 3 ((rulesOf R y.p++[y]).map Ru.av)):=by
 apply List.ext_getElem?
 intro k
 by_cases e:j=k
 ·subst e
  have hlt:j<(gO R rn).length:=by unfold gO;rw [List.length_map];exact (List.getElem?_eq_some_iff.1 hj).1
  rw [List.getElem?_set_self hlt]
  unfold gO
  rw [List.getElem?_map,hj]
  simp only [Option.map_some]
  rw [rulesOf_app,if_pos rfl]
 ·rw [List.getElem?_set_ne e]
  unfold gO
  rw [List.getElem?_map,List.getElem?_map]
  cases hk:rn[k]? with
  |none=>rfl
  |some u=>
   simp only [Option.map_some]
   have:y.p≠u:=by
    rintro rfl
    exact e (nodup_get hn hj hk)
   rw [rulesOf_app,if_neg this,List.append_nil]
abbrev Z2me (p:ByteArray) (ts:List Tm) (rn:List ByteArray) (rules:List Ru):St:=⟨[Z2m0 p ts,Z2m1,Z2m2,Z2m3],[Z2m7,Z2m8 p ts,(30,.map (rn.map AV.str) (gO rules rn)),Z2ma]⟩
abbrev Z2mf (p:ByteArray) (ts:List Tm) (rules:List Ru) (i:Nat) (rn:List ByteArray):St:=⟨[Z2m0 p ts,Z2m1,Z2m2,Z2m3,Z2m4 rules,Z2m5 rules,Z2m6 i],[Z2m7,Z2m8 p ts,(30,.map (rn.map AV.str) (gO (rules.take i) rn)),Z2ma]⟩
theorem l18_0 (rules:List Ru) (p:ByteArray) (ts:List Tm) (hsm:rules.length≤2000000):∃rn:List ByteArray,rn.Nodup∧RN rules rn∧Lo 153 (loopOf Tryz.f18 0) (Z2md p ts rules) (.exit 0) (Z2me p ts rn rules):=by
 have T:∀(i:Nat) (rn:List ByteArray),i<rules.length→(rn.Nodup∧RN (rules.take i) rn)→En 153 (loopOf Tryz.f18 0) (Z2mf p ts rules i rn) (fun e s=>e= .normal∧∃rn:List ByteArray,(rn.Nodup∧RN (rules.take (i+1)) rn)∧s=⟨[Z2m0 p ts,Z2m1,Z2m2,Z2m3,Z2m4 rules,Z2m5 rules,(35,.int .i64 ((i+1:Nat):Int))],[Z2m7,Z2m8 p ts,(30,.map (rn.map AV.str) (gO (rules.take (i+1)) rn)),Z2ma]⟩):=by
  intro i rn hi ⟨hn,hr⟩
  have hy:rules[i]? =some rules[i]:=List.getElem?_eq_getElem hi
  have htk:rules.take (i+1)=rules.take i++[rules[i]]:=List.take_succ_eq_append_getElem hi
  rw [htk]
  generalize rules[i]=y at hy
  have hx:0≤(i:Int)∧(rules.map Ru.av)[Int.toNat (i:Int)]? =some (Ru.av y):=⟨by omega,get_of Ru.av hy⟩
  by_cases hm:y.p∈rn
  ·obtain ⟨j,hf,hj⟩:=findA_some (i:=0) hm
   rw [Nat.zero_add] at hf
   obtain ⟨r0,q1,q2⟩:=(hr y.p).1 hm
   have hne:rulesOf (rules.take i) y.p≠[]:=List.ne_nil_of_mem (mem_rulesOf.2 ⟨q1,q2⟩)
   have hlen:(rulesOf (rules.take i) y.p).length<1000000000:=by
    have:(rulesOf (rules.take i) y.p).length≤(rules.take i).length:=List.length_filter_le ..
    rw [List.length_take] at this
    omega
   have hvj:(gO (rules.take i) rn)[j]? =some (.own 3 ((rulesOf (rules.take i) y.p).map Ru.av)):=by unfold gO;rw [List.getElem?_map,hj];rfl
   have pr:=m18o rules p ts rn (gO (rules.take i) rn) (noIds_gO _ _) y i j (rulesOf (rules.take i) y.p) hlen hne hf hj hvj
   rw [←gO_old hn hj] at pr
   obtain ⟨e,t,⟨rfl,rfl⟩,h⟩:=t18m rules p ts rn rn (gO (rules.take i) rn) (gO (rules.take i++[y]) rn) (noIds_gO _ _) (noIds_gO _ _) y i hi hsm hx pr
   exact ⟨_,_,⟨rfl,rn,⟨hn,fun u=>by
    rw [hr]
    constructor
    ·rintro ⟨r,h1,h2⟩;exact ⟨r,by simp [h1],h2⟩
    ·rintro ⟨r,h1,h2⟩
     rcases List.mem_append.1 h1 with h1|h1
     ·exact ⟨r,h1,h2⟩
     ·rw [List.mem_singleton] at h1;subst h1;subst h2;exact ⟨r0,q1,q2⟩⟩,rfl⟩,h⟩
  ·have pr:=m18n rules p ts rn (gO (rules.take i) rn) (noIds_gO _ _) y i (findA_none hm)
   rw [←gO_new hr hm] at pr
   obtain ⟨e,t,⟨rfl,rfl⟩,h⟩:=t18m rules p ts rn (rn++[y.p]) (gO (rules.take i) rn) (gO (rules.take i++[y]) (rn++[y.p])) (noIds_gO _ _) (noIds_gO _ _) y i hi hsm hx pr
   refine ⟨_,_,⟨rfl,rn++[y.p],⟨List.nodup_append.2 ⟨hn,by simp,fun a ha b hb=> ?_⟩,fun u=> ?_⟩,rfl⟩,h⟩
   ·rw [List.mem_singleton] at hb;subst hb;rintro rfl;exact hm ha
   ·rw [List.mem_append,List.mem_singleton,hr]
    constructor
    ·rintro (⟨r,h1,h2⟩|h1)
     ·exact ⟨r,by simp [h1],h2⟩
     ·exact ⟨y,by simp,h1.symm⟩
    ·rintro ⟨r,h1,h2⟩
     rcases List.mem_append.1 h1 with h1|h1
     ·exact .inl ⟨r,h1,h2⟩
     ·rw [List.mem_singleton] at h1;subst h1;exact .inr h2.symm
 obtain ⟨rn,⟨h1,h2⟩,h⟩:=inv_loop0 (P:=Tryz.prog) (n:=153) (c:=loopOf Tryz.f18 0) (N:=rules.length) (k:=0) (γ:=List ByteArray) (fun i rn=>(Z2mf p ts rules i rn)) (fun rn=>⟨[Z2m0 p ts,Z2m1,Z2m2,Z2m3],[Z2m7,Z2m8 p ts,(30,.map (rn.map AV.str) (gO (rules.take rules.length) rn)),Z2ma]⟩)
  (fun i rn=>rn.Nodup∧RN (rules.take i) rn) T (fun rn _=>by
   have:=e18m rules p ts rn (gO (rules.take rules.length) rn) (noIds_gO _ _)
   exact this) [] ⟨by simp,fun u=>by simp⟩
 rw [List.take_length] at h2 h
 exact ⟨rn,h1,h2,h⟩
theorem unown_gO (rules:List Ru) (rn:List ByteArray):(gO rules rn).map unown=rvOf rules rn:=by simp [gO,rvOf,unown]
theorem noIds_rvOf (rules:List Ru) (rn:List ByteArray):noIdsL (rvOf rules rn)=true:=noIdsL_of (fun u=>AV.seq ((rulesOf rules u).map Ru.av) false) (fun _=>rfl) rn
theorem seal18 (rules:List Ru) (p:ByteArray) (ts:List Tm) (rn:List ByteArray):Le 153 (Z2me p ts rn rules) ⟨[Z2m0 p ts,Z2m1,Z2m2,Z2m3],[Z2m7,Z2m8 p ts,(32,.var [.own 2 [],.nilmap,.tmap (rn.map AV.str) (rvOf rules rn),.own 3 []])]⟩:=by
 have h:=le_seal (n:=153) (st:=(Z2me p ts rn rules)) 30 rfl (by simp [mid]) rfl
 rw [unown_gO] at h
 refine h.trans (renSt_le (n:=153) (slots:=[3,4,8,9]) (tb:=[(4,.keep 4 true),(8,.keep 8 true),(30,.freeze),(32,.keep 32 false)]) (cs:=[noIdsL [.nils,.str ⟨#[]⟩,.nils,.nils]=true,noIdsL [.str p,.seq (ts.map Tm.av) false]=true,noIdsL (rn.map AV.str)=true∧noIdsL (rvOf rules rn)=true]) rfl fun q hq=> ?_)
 simp only [List.mem_cons,List.not_mem_nil,or_false] at hq
 rcases hq with rfl|rfl|rfl
 ·rfl
 ·rfl
 ·exact ⟨noIdsL_strs rn,noIds_rvOf rules rn⟩
abbrev Z2n0 (p:ByteArray) (ts:List Tm):Nat×AV:=(3,.tptr [.str p,.seq (ts.map Tm.av) false])
abbrev Z2n1:Nat×AV:=(4,.elt 4 0 0)
abbrev Z2n2:Nat×AV:=(8,.elt 8 0 0)
abbrev Z2n3:Nat×AV:=(9,.elt 32 0 0)
abbrev Z2n4:Nat×Ob:=(4,.var [.nils,.str ⟨#[]⟩,.nils,.nils])
abbrev Z2n5 (p:ByteArray) (ts:List Tm):Nat×Ob:=(8,.var [.str p,.seq (ts.map Tm.av) false])
abbrev Z2n6 (rn:List ByteArray) (rv:List AV):Nat×Ob:=(32,.var [.own 2 [],.nilmap,.tmap (rn.map AV.str) rv,.own 3 []])
abbrev Z2nh (p:ByteArray) (ts:List Tm) (rn:List ByteArray) (rv:List AV):St:=⟨[Z2n0 p ts,Z2n1,Z2n2,Z2n3],[Z2n4,Z2n5 p ts,Z2n6 rn rv]⟩
theorem b18n (p:ByteArray) (ts:List Tm) (rn:List ByteArray) (rv:List AV) (hf:findA true (.str p) (rn.map AV.str) 0=some none):En 153 (restC 5 (bodyOf Tryz.f18)) (Z2nh p ts rn rv) (fun e t=>e= .ret∧t=⟨[Z2n1,(5,.nils),(6,.int .i64 0)],[(4,.var [.nils,.str p,.seq (ts.map Tm.av) false,.nils])]⟩):=by
 exact gE ⟨rfl,rfl⟩ 0 [.is false,.is true] [4,5,6] [(4,.keep 4 true)] (aC3 hf rT rT)
theorem w18f (p:ByteArray) (ts:List Tm) (rn:List ByteArray) (rv:List AV) (es:List AV) (he:decide (((es.length:Nat):Int)=0)=false) (hf:∃j,findA true (.str p) (rn.map AV.str) 0=some (some j)∧rv[j]? =some (.seq es false)):EN 153 (partC 5 (bodyOf Tryz.f18)) (Z2nh p ts rn rv) (Z2nh p ts rn rv):=by
 exact gE ⟨rfl,rfl⟩ 0 [.elt (.seq es false),.is false] [3,4,8,9] [(4,.keep 4 true),(8,.keep 8 true),(32,.keep 32 false)] (aC4 hf he rT rT)
abbrev Z2n7 (p:ByteArray) (ts:List Tm):Nat×Ob:=(33,.map ([(p,patT ts [])].map adA) (ixs [(p,patT ts [])].length))
theorem w18g (p:ByteArray) (ts:List Tm) (rn:List ByteArray) (rv:List AV) (nm:ByteArray) (hts:ts.length<1000000000000) (k46:Sp 46 [.elt 32 0 0,.agg [.str p,.str (patT ts [])]] [Z2n6 rn rv] (.str nm) [(32,.var [.own 2 ([(p,patT ts [])].map adA),.map 33,.tmap (rn.map AV.str) rv,.own 3 (([]:List Ru).map Ru.av)]),Z2n7 p ts]):EN 153 (partC 6 (bodyOf Tryz.f18)) (Z2nh p ts rn rv) ⟨[Z2n1,Z2n2,Z2n3],[Z2n4,(8,.var [.str nm,.seq (ts.map Tm.av) false]),(32,.var [.own 2 ([(p,patT ts [])].map adA),.map 33,.tmap (rn.map AV.str) rv,.own 3 (([]:List Ru).map Ru.av)]),Z2n7 p ts]⟩:=by
 have hs0:=k10a p ts (by assumption)
 have hs1:=k46
 exact gE ⟨rfl,rfl⟩ 0 [.call (.str (patT ts [])) [] [],.call (.str nm) [32] [(32,.var [.own 2 [.agg [.str p,.str (patT ts [])]],.map 33,.tmap (rn.map AV.str) rv,.own 3 []]),(33,.map [.agg [.str p,.str (patT ts [])]] [.int .i64 0])]] [4,8,9] [(4,.keep 4 true),(8,.keep 8 true),(32,.keep 32 false),(33,.keep 33 true)] (aC5 hs0 hs1 rT rT (show true=true∧true=true from by simp))
abbrev Z2n8 (L:List Ad) (rn:List ByteArray) (rv:List AV) (out:List Ru):Nat×Ob:=(32,.var [.own 2 (L.map adA),.map 33,.tmap (rn.map AV.str) rv,.own 3 (out.map Ru.av)])
abbrev Z2n9 (L:List Ad):Nat×Ob:=(33,.map (L.map adA) (ixs L.length))
abbrev Z2na (nm:ByteArray) (ts:List Tm):Nat×AV:=(8,.tptr [.str nm,.seq (ts.map Tm.av) false])
theorem w18h (L:List Ad) (rn:List ByteArray) (rv:List AV) (out:List Ru) (nm:ByteArray) (ts:List Tm):EN 153 (regOf Tryz.f18 12) ⟨[Z2n1,Z2n2,Z2n3],[Z2n4,(8,.var [.str nm,.seq (ts.map Tm.av) false]),Z2n8 L rn rv out,Z2n9 L]⟩ ⟨[Z2n1,Z2na nm ts,Z2n3,(12,.int .i64 0)],[Z2n4,Z2n8 L rn rv out,Z2n9 L]⟩:=by
 exact gE ⟨rfl,rfl⟩ 0 [] [4,8,9,12] [(4,.keep 4 true),(8,.freeze),(32,.keep 32 false),(33,.keep 33 true)] (aC3 rT rT (show noIdsL (L.map adA)=true∧noIdsL (ixs L.length)=true from by simp))
abbrev Z2nb (L:List Ad) (rn:List ByteArray) (rv:List AV) (out:List Ru):Nat×AV:=(9,.tptr [.seq (L.map adA) false,.dead,.tmap (rn.map AV.str) rv,.seq (out.map Ru.av) false])
abbrev Z2nc (out:List Ru):Nat×AV:=(131,.seq (out.map Ru.av) false)
abbrev Z2nd (out:List Ru):Nat×AV:=(132,.int .i64 ((out.map Ru.av).length:Nat))
abbrev Z2ne:Nat×AV:=(6,.int .i64 70)
abbrev Z2ni:St:=⟨[Z2n1,(5,.nils),Z2ne],[Z2n4]⟩
theorem t18x (L:List Ad) (rn:List ByteArray) (rv:List AV) (out:List Ru) (nm:ByteArray) (ts:List Tm) (k:Nat) (hk:k<out.length) (hl:out.length<1000000000):En 153 (loopOf Tryz.f18 3) ⟨[Z2n1,Z2na nm ts,Z2nb L rn rv out,Z2nc out,Z2nd out,(133,.int .i64 (k:Int))],[Z2n4]⟩ (fun e t=>(e= .ret∧t=Z2ni)∨(e= .normal∧t=⟨[Z2n1,Z2na nm ts,Z2nb L rn rv out,Z2nc out,Z2nd out,(133,.int .i64 ((k+1:Nat):Int))],[Z2n4]⟩)):=by
 obtain ⟨x0,hm0,hx0⟩:=elt_of Ru.av (l:=out) (n:=(↑k:Int)) (by omega) (by omega)
 obtain ⟨r1,⟨hs2,hs2'⟩⟩:=k49p x0.1 x0.2 x0.3
 rcases bft (decide (r1=0)) with h3|h3
 ·exact gE (.inr ⟨rfl,rfl⟩) 0 [.is true,.elt (.agg [.str x0.1,.seq (List.map Ar.av x0.2) false,.seq (List.map Li.av x0.3) false]),.call (.int .i64 r1) [] [],.is false] [4,8,9,131,132,133] [(4,.keep 4 true)] (aC6 (show decide ((k:Int)<(↑(out.map Ru.av).length:Int))=true from by simp;omega) hx0 hs2 (nF h3) (show IntKind.wrap .i64 ((k:Int)+1)=(k:Int)+1 from wrap64_id (by omega) (by omega)) rT)
 ·exact gE (.inl ⟨rfl,rfl⟩) 0 [.is true,.elt (.agg [.str x0.1,.seq (List.map Ar.av x0.2) false,.seq (List.map Li.av x0.3) false]),.call (.int .i64 r1) [] [],.is true] [4,5,6] [(4,.keep 4 true)] (aC5 (show decide ((k:Int)<(↑(out.map Ru.av).length:Int))=true from by simp;omega) hx0 hs2 (nT h3) rT)
abbrev Z2nj (nm:ByteArray) (ts:List Tm) (L:List Ad) (rn:List ByteArray) (rv:List AV) (out:List Ru):St:=⟨[Z2n1,Z2na nm ts,Z2nb L rn rv out],[Z2n4]⟩
theorem e18x (L:List Ad) (rn:List ByteArray) (rv:List AV) (out:List Ru) (nm:ByteArray) (ts:List Tm):En 153 (loopOf Tryz.f18 3) ⟨[Z2n1,Z2na nm ts,Z2nb L rn rv out,Z2nc out,Z2nd out,(133,.int .i64 ((out.length:Nat):Int))],[Z2n4]⟩ (fun e t=>e= .exit 6∧t=(Z2nj nm ts L rn rv out)):=by
 exact gE ⟨rfl,rfl⟩ 0 [.is false] [4,8,9] [(4,.keep 4 true)] (aC2 (show decide ((↑out.length:Int)<(↑(out.map Ru.av).length:Int))=false from by simp) rT)
abbrev Z2nf:Nat×AV:=(133,.int .i64 0)
abbrev Z2nk (nm:ByteArray) (ts:List Tm) (L:List Ad) (rn:List ByteArray) (rv:List AV) (out:List Ru):St:=⟨[Z2n1,Z2na nm ts,Z2nb L rn rv out,Z2nc out,Z2nd out,Z2nf],[Z2n4]⟩
theorem l18_3 (L:List Ad) (rn:List ByteArray) (rv:List AV) (out:List Ru) (nm:ByteArray) (ts:List Tm) (hl:out.length<1000000000):Lo 153 (loopOf Tryz.f18 3) (Z2nk nm ts L rn rv out) .ret Z2ni∨Lo 153 (loopOf Tryz.f18 3) (Z2nk nm ts L rn rv out) (.exit 6) (Z2nj nm ts L rn rv out):=by
 rcases range_ex (P:=Tryz.prog) (n:=153) (c:=loopOf Tryz.f18 3) (N:=out.length) (k:=6) (fun k=>⟨[Z2n1,Z2na nm ts,Z2nb L rn rv out,Z2nc out,Z2nd out,(133,.int .i64 (k:Int))],[Z2n4]⟩) (Z2nj nm ts L rn rv out) (fun t=>t=Z2ni) (fun k hk=>t18x L rn rv out nm ts k hk hl) (e18x L rn rv out nm ts) with ⟨t,h,rfl⟩|h
 ·exact .inl h
 ·exact .inr h
abbrev Z2ng:Nat×Ob:=(4,.var [.nils,.str (ByteArray.mk #[]),.nils,.nils])
theorem b18s (L:List Ad) (rn:List ByteArray) (rv:List AV) (out:List Ru) (nm:ByteArray) (ts:List Tm) (l18_3q:Lo 153 (loopOf Tryz.f18 3) (Z2nk nm ts L rn rv out) .ret Z2ni):En 153 (restC 8 (bodyOf Tryz.f18)) (Z2nj nm ts L rn rv out) (fun e t=>e= .ret∧t=Z2ni):=by
 have hl0:=l18_3q
 exact gE ⟨rfl,rfl⟩ 0 [.cut [4,8,9,131,132,133] [(4,.keep 4 true)],.sum .ret [Z2n1,(5,.nils),Z2ne] [Z2ng]] [4,5,6] [(4,.keep 4 true)] (aC3 rT hl0 rT)
theorem b18t (L:List Ad) (rn:List ByteArray) (rv:List AV) (out:List Ru) (nm:ByteArray) (ts:List Tm) (l18_3q:Lo 153 (loopOf Tryz.f18 3) (Z2nk nm ts L rn rv out) (.exit 6) (Z2nj nm ts L rn rv out)):En 153 (restC 8 (bodyOf Tryz.f18)) (Z2nj nm ts L rn rv out) (fun e t=>e= .ret∧t=⟨[Z2n1,(5,.seq (L.map adA) false),(6,.int .i64 0)],[(4,.var [.seq (out.map Ru.av) false,.str nm,.seq (ts.map Tm.av) false,.nils])]⟩):=by
 have hl0:=l18_3q
 exact gE ⟨rfl,rfl⟩ 0 [.cut [4,8,9,131,132,133] [(4,.keep 4 true)],.sum (.exit 6) [Z2n1,Z2na nm ts,Z2nb L rn rv out] [Z2ng]] [4,5,6] [(4,.keep 4 true)] (aC3 rT hl0 rT)
theorem conv18 (L:List Ad) (rn:List ByteArray) (rv:List AV) (out:List Ru) (nm:ByteArray) (ts:List Tm) (hrv:noIdsL rv=true) (hL:L≠[]) (ho:out≠[]):Le 153 ⟨[Z2n1,Z2na nm ts,Z2n3],[Z2n4,Z2n8 L rn rv out,Z2n9 L]⟩ (Z2nj nm ts L rn rv out):=by
 refine (openQ 153 L (rn.map AV.str) rv out [.nils,.str ⟨#[]⟩,.nils,.nils] [Z2n1,Z2na nm ts,Z2n3] hL).trans ?_
 refine (le_open (n:=153) (st:=⟨[Z2n1,Z2na nm ts,Z2n3],[Z2n4,(32,.var [.row 34 0 (L.map adA).length,.map 33,.tmap (rn.map AV.str) rv,.own 3 (out.map Ru.av)]),Z2n9 L,(34,.row 2 (L.map adA))]⟩) 32 3 35 (sz:=3) (es:=out.map Ru.av) (o:= .var [.row 34 0 (L.map adA).length,.map 33,.tmap (rn.map AV.str) rv,.own 3 (out.map Ru.av)]) rfl rfl (by simpa using ho) rfl (by simp [mid])).trans ?_
 refine (renSt_le (n:=153) (slots:=[4,8,9]) (tb:=[(4,.keep 4 true),(32,.keep 32 false),(34,.freeze),(35,.freeze)]) (st:=⟨[Z2n1,Z2na nm ts,Z2n3],[Z2n4,(32,.var [.row 34 0 (L.map adA).length,.map 33,.tmap (rn.map AV.str) rv,.row 35 0 (out.map Ru.av).length]),Z2n9 L,(34,.row 2 (L.map adA)),(35,.row 3 (out.map Ru.av))]⟩) (st':=⟨[Z2n1,Z2na nm ts,Z2n3],[Z2n4,(32,.var [.seq (L.map adA) false,.dead,.tmap (rn.map AV.str) rv,.seq (out.map Ru.av) false])]⟩) (cs:=[noIdsL [.nils,.str ⟨#[]⟩,.nils,.nils]=true,(L.map adA).length=(L.map adA).length,(out.map Ru.av).length=(out.map Ru.av).length,noIdsL (L.map adA)=true,noIdsL (out.map Ru.av)=true]) rfl fun q hq=> ?_).trans ?_
 ·simp only [List.mem_cons,List.not_mem_nil,or_false] at hq
  rcases hq with rfl|rfl|rfl|rfl|rfl
  ·rfl
  ·trivial
  ·trivial
  ·exact noIdsL_ads L
  ·exact noIdsL_rus' out
 ·refine renSt_le (n:=153) (slots:=[4,8,9]) (tb:=[(4,.keep 4 true),(32,.freeze)]) (st:=⟨[Z2n1,Z2na nm ts,Z2n3],[Z2n4,(32,.var [.seq (L.map adA) false,.dead,.tmap (rn.map AV.str) rv,.seq (out.map Ru.av) false])]⟩) (st':=(Z2nj nm ts L rn rv out)) (cs:=[noIdsL [.nils,.str ⟨#[]⟩,.nils,.nils]=true,noIdsL [.seq (L.map adA) false,.dead,.tmap (rn.map AV.str) rv,.seq (out.map Ru.av) false]=true]) rfl fun q hq=> ?_
  simp only [List.mem_cons,List.not_mem_nil,or_false] at hq
  rcases hq with rfl|rfl<;>rfl
theorem Wrs.len {rn:List ByteArray} {a:Ad} {rs out out':List Ru} {L L':List Ad} (h:Wrs rn a rs L out L' out'):out'.length=out.length+rs.length:=by
 induction h with
 |nil L out=>simp
 |cons h1 h2 h3 ih=>rw [ih];simp;omega
theorem Ads.len {rules:List Ru} {rn:List ByteArray} {i:Nat} {L L':List Ad} {out out':List Ru} (h:Ads rules rn i L out L' out'):out.length≤out'.length:=by
 induction h with
 |stop L out=>exact Nat.le_refl _
 |go h1 h2 h3 ih=>have:=h2.len;simp at ih;omega
theorem Ads.ne {rules:List Ru} {rn:List ByteArray} {L L':List Ad} {out out':List Ru} (h:Ads rules rn 0 L out L' out') (hL:L≠[]):out'≠[]:=by
 have key:∀{i:Nat} {L L':List Ad} {out out':List Ru},Ads rules rn i L out L' out'→i=0→L≠[]→out'≠[]:=by
  intro i L L' out out' h
  cases h with
  |stop L out=>intro h0 hne;exact absurd (List.eq_nil_of_length_eq_zero h0) hne
  |go h1 h2 h3=>
   intro _ _ e
   have:=h3.len
   rw [e] at this
   simp at this
 exact key h rfl hL
def AdornR (rules:List Ru) (p:ByteArray) (ts:List Tm) (g pr:AV) (e:Int):Prop:=
 (e≠0∧g= .agg [.nils,.str ⟨#[]⟩,.nils,.nils]∧pr= .nils)∨(e=0∧g= .agg [.nils,.str p,.seq (ts.map Tm.av) false,.nils]∧pr= .nils∧ts.length≤24∧∀r,r∈rules→r.p≠p)∨
 (e=0∧∃(am:Am) (rn:List ByteArray) (L:List Ad) (out:List Ru),RefOK rules p ts am∧RN rules rn∧p∈rn∧Ads rules rn 0 [(p,patT ts [])] [] L out∧[(p,patT ts [])]<+:L∧L.Nodup∧(∃U:List Ad,UOK rules rn U∧∀a,a∈L→a∈U)∧L.length≤100∧out.length<900000000∧g= .agg [.seq (out.map Ru.av) false,.str (nameT p (patT ts [])),.seq (ts.map Tm.av) false,.nils]∧pr= .seq (L.map adA) false)
theorem k18 (rules:List Ru) (p:ByteArray) (ts:List Tm) (hsm:rules.length≤2000000) (hU:∀(rn:List ByteArray) (am:Am),RN rules rn→RefOK rules p ts am→p∈rn→∃U:List Ad,UOK rules rn U∧(p,patT ts [])∈U):
  ∃(g pr:AV) (e:Int),Sp 18 [.seq (rules.map Ru.av) false,atA p ts] [] (.tup [g,pr,.int .i64 e]) []∧AdornR rules p ts g pr e:=by
 obtain ⟨e,s,⟨rfl,rfl⟩,r0⟩:=w18a rules p ts
 obtain ⟨rc,s44,h44⟩:=k44 rules p ts hsm
 have ha:noIdsL [AV.seq (rules.map Ru.av) false,atA p ts]=true:=by simp [noIdsL,noIds,atA,atC]
 by_cases h0:rc=0
 ·subst h0
  obtain ⟨am,hok⟩:=h44 rfl
  obtain ⟨e,s,⟨rfl,rfl⟩,r1⟩:=w18b rules p ts s44
  obtain ⟨e,s,⟨rfl,rfl⟩,r2⟩:=w18c rules p ts hok.few
  obtain ⟨e,s,⟨rfl,rfl⟩,r3⟩:=w18d rules p ts
  obtain ⟨rn,hnd,hrn,hL0⟩:=l18_0 rules p ts hsm
  obtain ⟨e,s,⟨rfl,rfl⟩,r4⟩:=w18e rules p ts rn (gO rules rn) (noIds_gO _ _) hL0
  have r3a:=r3.post (le_closeNil (n:=153) (st:=⟨[(0,.seq (rules.map Ru.av) false),Z2n0 p ts,Z2n1,Z2n2,Z2n3],[Z2n4,Z2n5 p ts,(30,.map [] []),(32,.var [.nils,.nilmap,.map 30,.nils])]⟩) 32 0 2 rfl rfl)
  have r3b:=r3a.post (le_closeNil (n:=153) (st:=⟨[(0,.seq (rules.map Ru.av) false),Z2n0 p ts,Z2n1,Z2n2,Z2n3],[Z2n4,Z2n5 p ts,(30,.map [] []),(32,.var [.own 2 [],.nilmap,.map 30,.nils])]⟩) 32 3 3 rfl rfl)
  have r4a:=r4.post (seal18 rules p ts rn)
  have go:∀{t:St},Rz 153 (restC 5 (bodyOf Tryz.f18)) ⟨[Z2n0 p ts,Z2n1,Z2n2,Z2n3],[Z2n4,Z2n5 p ts,(32,.var [.own 2 [],.nilmap,.tmap (rn.map AV.str) (rvOf rules rn),.own 3 []])]⟩ .ret t→Rz 153 (bodyOf Tryz.f18) ⟨[(0,.seq (rules.map Ru.av) false),(1,atA p ts)],[]⟩ .ret t:=fun h=>
   Runs.nth 0 (by kernel_rfl) r0 (Runs.nth 1 (by kernel_rfl) r1 (Runs.nth 2 (by kernel_rfl) r2 (Runs.nth 3 (by kernel_rfl) r3b (Runs.nth 4 (by kernel_rfl) r4a h))))
  by_cases hp:p∈rn
  ·obtain ⟨U,hu,haU⟩:=hU rn am hrn hok hp
   obtain ⟨j,hf,hj⟩:=findA_some (i:=0) hp
   rw [Nat.zero_add] at hf
   obtain ⟨es,h5,h6⟩:=RV_of hrn j (List.getElem?_eq_some_iff.1 hj).1
   obtain ⟨e,s,⟨rfl,rfl⟩,r5⟩:=w18f p ts rn (rvOf rules rn) es (decide_eq_false (by omega)) ⟨j,hf,h5⟩
   have hfew:=hok.few
   have hsh:=hok.short
   have hps:(patT ts []).size≤24:=by rw [patT_size];exact hfew
   obtain ⟨e,s,⟨rfl,rfl⟩,r6⟩:=w18g p ts rn (rvOf rules rn) (nameT p (patT ts [])) (by omega) (q46z (p,patT ts []) (rn.map AV.str) (rvOf rules rn) (by show p.size<_;omega) (by show (patT ts []).size<_;omega))
   obtain ⟨e,s,⟨rfl,rfl⟩,r7⟩:=w18h [(p,patT ts [])] rn (rvOf rules rn) [] (nameT p (patT ts [])) ts
   have huf:=hu.few
   obtain ⟨L,out,d1,d2,d3,d4,d5⟩:=l18o rules rn U [.nils,.str ⟨#[]⟩,.nils,.nils] [.str (nameT p (patT ts [])),.seq (ts.map Tm.av) false] rfl hrn hu hsm hok.small U.length 0 [(p,patT ts [])] [] (by omega) (by simp) ⟨by simp,fun x hx=>by rw [List.mem_singleton.1 hx];exact haU⟩ (by simp;omega)
   have hLne:L≠[]:=by
    rintro rfl
    have:=d3.length_le
    simp at this
   have hone:=d1.ne (by simp)
   have hLl:=d2.len
   have e7:partC 7 (bodyOf Tryz.f18)= .seq (regOf Tryz.f18 12) (.block 2 (.loop (loopOf Tryz.f18 1))):=by kernel_rfl
   have r7':Rz 153 (partC 7 (bodyOf Tryz.f18)) ⟨[Z2n1,Z2n2,Z2n3],[Z2n4,(8,.var [.str (nameT p (patT ts [])),.seq (ts.map Tm.av) false]),(32,.var [.own 2 ([(p,patT ts [])].map adA),.map 33,.tmap (rn.map AV.str) (rvOf rules rn),.own 3 (([]:List Ru).map Ru.av)]),Z2n7 p ts]⟩ .normal ⟨[Z2n1,(8,.tptr [.str (nameT p (patT ts [])),.seq (ts.map Tm.av) false]),(9,.tptr [.seq (L.map adA) false,.dead,.tmap (rn.map AV.str) (rvOf rules rn),.seq (out.map Ru.av) false])],[Z2n4]⟩:=by
    rw [e7]
    exact (r7.seq (Loops.runs d5).exitBlk).post (conv18 L rn (rvOf rules rn) out (nameT p (patT ts [])) ts (noIds_rvOf _ _) hLne hone)
   rcases l18_3 L rn (rvOf rules rn) out (nameT p (patT ts [])) ts (by omega) with hL3|hL3
   ·obtain ⟨e,s,⟨rfl,rfl⟩,r8⟩:=b18s L rn (rvOf rules rn) out (nameT p (patT ts [])) ts hL3
    have r:=go (Runs.nth 5 (by kernel_rfl) r5 (Runs.nth 6 (by kernel_rfl) r6 (Runs.nth 7 (by kernel_rfl) r7' r8)))
    exact ⟨.agg [.nils,.str ⟨#[]⟩,.nils,.nils],.nils,70,Spec.pure (fn:=Tryz.f18) (c:=bodyOf Tryz.f18) (by kernel_rfl) (by kernel_rfl) ha r (.inr rfl) (by kernel_rfl) rfl,.inl ⟨by decide,rfl,rfl⟩⟩
   ·obtain ⟨e,s,⟨rfl,rfl⟩,r8⟩:=b18t L rn (rvOf rules rn) out (nameT p (patT ts [])) ts hL3
    have r:=go (Runs.nth 5 (by kernel_rfl) r5 (Runs.nth 6 (by kernel_rfl) r6 (Runs.nth 7 (by kernel_rfl) r7' r8)))
    exact ⟨_,_,0,Spec.pure (fn:=Tryz.f18) (c:=bodyOf Tryz.f18) (by kernel_rfl) (by kernel_rfl) ha r (.inr rfl) (by kernel_rfl) rfl,.inr (.inr ⟨rfl,am,rn,L,out,hok,hrn,hp,d1,d3,d2.1,⟨U,hu,d2.2⟩,by omega,d4,rfl,rfl⟩)⟩
  ·obtain ⟨e,s,⟨rfl,rfl⟩,r5⟩:=b18n p ts rn (rvOf rules rn) (findA_none hp)
   exact ⟨_,_,0,Spec.pure (fn:=Tryz.f18) (c:=bodyOf Tryz.f18) (by kernel_rfl) (by kernel_rfl) ha (go r5) (.inr rfl) (by kernel_rfl) rfl,.inr (.inl ⟨rfl,rfl,rfl,hok.few,fun r hr h=>hp ((hrn p).2 ⟨r,hr,h⟩)⟩)⟩
 ·obtain ⟨e,s,⟨rfl,rfl⟩,r1⟩:=b18e rules p ts rc (by simp [h0]) s44
  exact ⟨.agg [.nils,.str ⟨#[]⟩,.nils,.nils],.nils,rc,Spec.pure (fn:=Tryz.f18) (c:=bodyOf Tryz.f18) (by kernel_rfl) (by kernel_rfl) ha (Runs.nth 0 (by kernel_rfl) r0 r1) (.inr rfl) (by kernel_rfl) rfl,.inl ⟨h0,rfl,rfl⟩⟩
theorem k21 (ts:List Tm) (hts:ts.length<1000000000000):Sp 21 [.seq (ts.map Tm.av) false,.seq (ts.map Tm.av) false] [] (.bool true) []:=st_spec ts false false hts
theorem b20 (p:ByteArray) (ts:List Tm) (hts:ts.length<1000000000000):En 17 (bodyOf Tryz.f20) ⟨[(0,atA p ts),(1,atA p ts)],[]⟩ (fun e t=>e= .ret∧t=⟨[(4,.bool true)],[]⟩):=by
 have hs0:=k21 ts (by assumption)
 exact gE ⟨rfl,rfl⟩ 0 [.is true,.call (.bool true) [] []] [4] [] (aC2 (show decide (p=p)=true from by simp) hs0)
abbrev Z2o0 (rules:List Ru):Nat×AV:=(0,.seq (rules.map Ru.av) false)
abbrev Z2o1 (n:Nat):Nat×AV:=(5,.int .i64 (n:Int))
theorem t19 (rules:List Ru) (p:ByteArray) (n:Nat) (i:Nat) (hi:i<rules.length) (hsm:rules.length≤2000000) (hn:n≤i):En 23 (loopOf Tryz.f19 0) ⟨[Z2o0 rules,(1,.str p),Z2o1 n,(6,.int .i64 (i:Int))],[]⟩ (fun e t=>e= .normal∧∃(y:Ru) (m:Nat),rules[i]? =some y∧((y.p=p∧m=n+1)∨(y.p≠p∧m=n))∧t=⟨[Z2o0 rules,(1,.str p),(5,.int .i64 (m:Int)),(6,.int .i64 ((i+1:Nat):Int))],[]⟩):=by
 obtain ⟨x0,hm0,hx0⟩:=elt_of Ru.av (l:=rules) (n:=(↑i:Int)) (by omega) (by omega)
 rcases bft (decide (x0.1=p)) with h1|h1
 ·exact ⟨Out.normal,St.mk [Z2o0 rules,(1,AV.str p),(5,.int .i64 ((n:Int)+1)),(6,.int .i64 ((i:Int)+1))] [],by first|exact ⟨rfl,x0,n+1,hm0,.inl ⟨by simp_all,rfl⟩,rfl⟩|exact ⟨rfl,x0,n,hm0,.inr ⟨by simp_all,rfl⟩,rfl⟩,gA 0 [.is true,.elt (.agg [.str x0.1,.seq (List.map Ar.av x0.2) false,.seq (List.map Li.av x0.3) false]),.is true] [0,1,5,6] [] (by kernel_rfl) (aC5 (show decide ((i:Int)<(↑(rules.map Ru.av).length:Int))=true from by simp;omega) hx0 h1 (show IntKind.wrap .i64 ((n:Int)+1)=(n:Int)+1 from wrap64_id (by omega) (by omega)) (show IntKind.wrap .i64 ((i:Int)+1)=(i:Int)+1 from wrap64_id (by omega) (by omega)))⟩
 ·exact ⟨Out.normal,St.mk [Z2o0 rules,(1,AV.str p),Z2o1 n,(6,.int .i64 ((i:Int)+1))] [],by first|exact ⟨rfl,x0,n+1,hm0,.inl ⟨by simp_all,rfl⟩,rfl⟩|exact ⟨rfl,x0,n,hm0,.inr ⟨by simp_all,rfl⟩,rfl⟩,gA 0 [.is true,.elt (.agg [.str x0.1,.seq (List.map Ar.av x0.2) false,.seq (List.map Li.av x0.3) false]),.is false] [0,1,5,6] [] (by kernel_rfl) (aC4 (show decide ((i:Int)<(↑(rules.map Ru.av).length:Int))=true from by simp;omega) hx0 h1 (show IntKind.wrap .i64 ((i:Int)+1)=(i:Int)+1 from wrap64_id (by omega) (by omega)))⟩
theorem e19 (rules:List Ru) (p:ByteArray) (n:Nat):En 23 (loopOf Tryz.f19 0) ⟨[Z2o0 rules,(1,.str p),Z2o1 n,(6,.int .i64 ((rules.length:Nat):Int))],[]⟩ (fun e t=>e= .exit 0∧t=⟨[Z2o1 n],[]⟩):=by
 exact gE ⟨rfl,rfl⟩ 0 [.is false] [5] [] (aC1 (show decide ((↑rules.length:Int)<(↑(rules.map Ru.av).length:Int))=false from by simp))
abbrev Z2o2 (L:List Ad):Nat×AV:=(0,.seq (L.map adA) false)
abbrev Z2o3 (i:Nat):Nat×AV:=(5,.int .i64 (i:Int))
abbrev Z2o4 (i:Nat):Nat×AV:=(4,.int .i64 (i:Int))
abbrev Z2o7 (i:Nat):St:=⟨[Z2o4 i],[]⟩
theorem t22 (L:List Ad) (nm:ByteArray) (i:Nat) (hi:i<L.length) (hsm:L.length≤1000) (hs:∀a:Ad,a∈L→a.1.size<1000000∧a.2.size<1000000):En 20 (loopOf Tryz.f22 0) ⟨[Z2o2 L,(1,.str nm),Z2o3 i],[]⟩ (fun e t=>(e= .ret∧(∃a:Ad,L[i]? =some a∧nameT a.1 a.2=nm)∧t=(Z2o7 i))∨(e= .normal∧(∃a:Ad,L[i]? =some a∧nameT a.1 a.2≠nm)∧t=⟨[Z2o2 L,(1,.str nm),(5,.int .i64 ((i+1:Nat):Int))],[]⟩)):=by
 obtain ⟨x0,hm0,hx0⟩:=elt_of adA (l:=L) (n:=(↑i:Int)) (by omega) (by omega)
 have hs1:=k14 x0.1 x0.2 (by (have hq:=hs _ (List.mem_of_getElem? hm0);omega)) (by (have hq:=hs _ (List.mem_of_getElem? hm0);omega))
 rcases bft (decide (nameT x0.1 x0.2=nm)) with h2|h2
 ·exact ⟨Out.ret,St.mk [Z2o4 i] [],.inl ⟨rfl,⟨x0,hm0,by simp_all⟩,rfl⟩,gA 0 [.is true,.elt (.agg [.str x0.1,.str x0.2]),.call (.str (nameT x0.1 x0.2)) [] [],.is true] [4] [] (by kernel_rfl) (aC4 (show decide ((i:Int)<(↑(L.map adA).length:Int))=true from by simp;omega) hx0 hs1 h2)⟩
 ·exact ⟨Out.normal,St.mk [Z2o2 L,(1,AV.str nm),(5,.int .i64 ((i:Int)+1))] [],.inr ⟨rfl,⟨x0,hm0,by simp_all⟩,rfl⟩,gA 0 [.is true,.elt (.agg [.str x0.1,.str x0.2]),.call (.str (nameT x0.1 x0.2)) [] [],.is false] [0,1,5] [] (by kernel_rfl) (aC5 (show decide ((i:Int)<(↑(L.map adA).length:Int))=true from by simp;omega) hx0 hs1 h2 (show IntKind.wrap .i64 ((i:Int)+1)=(i:Int)+1 from wrap64_id (by omega) (by omega)))⟩
theorem e22 (L:List Ad) (nm:ByteArray):En 20 (loopOf Tryz.f22 0) ⟨[Z2o2 L,(1,.str nm),(5,.int .i64 ((L.length:Nat):Int))],[]⟩ (fun e t=>e= .exit 0∧t=⟨[],[]⟩):=by
 exact gE ⟨rfl,rfl⟩ 0 [.is false] [] [] (aC1 (show decide ((↑L.length:Int)<(↑(L.map adA).length:Int))=false from by simp))
abbrev Z2o5 (n:Nat):Nat×AV:=(1,.int .i64 (n:Int))
theorem t23 (s:ByteArray) (n:Nat) (i:Nat) (hi:i<s.size) (hsm:s.size≤1000) (hall:∀x:UInt8,(∃b:UInt8,s.data.toList[Int.toNat (i:Int)]? =some b∧(x.toNat:Int)=b.toNat)→(x.toNat:Int)=98∨(x.toNat:Int)=102):EN 26 (loopOf Tryz.f23 0) ⟨[(0,.str s),Z2o5 n,Z2o3 i],[]⟩ ⟨[(0,.str s),Z2o5 n,(5,.int .i64 ((i+1:Nat):Int))],[]⟩:=by
 obtain ⟨x0,hx0⟩:=byte_of (s:=s) (n:=(↑i:Int)) (by omega) (by omega)
 rcases bft (decide ((↑(UInt8.toNat x0):Int)=98)) with h1|h1
 ·exact gE ⟨rfl,rfl⟩ 0 [.is true,.elt (.int .u8 (↑(UInt8.toNat x0):Int)),.is false] [0,1,5] [] (aC4 (show decide ((i:Int)<(↑(ByteArray.size s):Int))=true from decide_eq_true (by omega)) hx0 (nF h1) (show IntKind.wrap .i64 ((i:Int)+1)=(i:Int)+1 from wrap64_id (by omega) (by omega)))
 ·rcases bft (decide ((↑(UInt8.toNat x0):Int)=102)) with h2|h2
  ·exact gE ⟨rfl,rfl⟩ 0 [.is true,.elt (.int .u8 (↑(UInt8.toNat x0):Int)),.is true,.elt (.int .u8 (↑(UInt8.toNat x0):Int)),.is false] [0,1,5] [] (aC6 (show decide ((i:Int)<(↑(ByteArray.size s):Int))=true from decide_eq_true (by omega)) hx0 (nT h1) hx0 (nF h2) (show IntKind.wrap .i64 ((i:Int)+1)=(i:Int)+1 from wrap64_id (by omega) (by omega)))
  ·exact ⟨Out.ret,St.mk [(4,.bool false)] [],by exfalso;have h9:=hall _ hx0.2;simp_all,gA 0 [.is true,.elt (.int .u8 (↑(UInt8.toNat x0):Int)),.is true,.elt (.int .u8 (↑(UInt8.toNat x0):Int)),.is true] [4] [] (by kernel_rfl) (aC5 (show decide ((i:Int)<(↑(ByteArray.size s):Int))=true from decide_eq_true (by omega)) hx0 (nT h1) hx0 (nT h2))⟩
abbrev Z2o8 (s:ByteArray) (n:Nat):St:=⟨[(0,.str s),Z2o5 n],[]⟩
theorem e23 (s:ByteArray) (n:Nat):En 26 (loopOf Tryz.f23 0) ⟨[(0,.str s),Z2o5 n,(5,.int .i64 ((s.size:Nat):Int))],[]⟩ (fun e t=>e= .exit 0∧t=(Z2o8 s n)):=by
 exact gE ⟨rfl,rfl⟩ 0 [.is false] [0,1] [] (aC1 (show decide ((↑(ByteArray.size s):Int)<(↑(ByteArray.size s):Int))=false from decide_eq_false (by omega)))
theorem k20 (p:ByteArray) (ts:List Tm) (hts:ts.length<1000000000000):Sp 20 [atA p ts,atA p ts] [] (.bool true) []:=by
 obtain ⟨e,t,⟨rfl,rfl⟩,h⟩:=b20 p ts hts
 exact Spec.pure (fn:=Tryz.f20) (c:=bodyOf Tryz.f20) (by kernel_rfl) (by kernel_rfl) (by simp [noIdsL,noIds,atA,atC]) h (.inr rfl) (by kernel_rfl) rfl
abbrev Z2o6:Nat×AV:=(5,.int .i64 0)
theorem l19_0 (rules:List Ru) (p:ByteArray) (hsm:rules.length≤2000000):Lo 23 (loopOf Tryz.f19 0) ⟨[Z2o0 rules,(1,.str p),Z2o6,(6,.int .i64 0)],[]⟩ (.exit 0) ⟨[(5,.int .i64 (((rulesOf rules p).length:Nat):Int))],[]⟩:=by
 obtain ⟨n,h1,h⟩:=inv_loop0 (P:=Tryz.prog) (n:=23) (c:=loopOf Tryz.f19 0) (N:=rules.length) (k:=0) (γ:=Nat) (fun i n=>⟨[Z2o0 rules,(1,.str p),(5,.int .i64 (n:Int)),(6,.int .i64 (i:Int))],[]⟩) (fun n=>⟨[(5,.int .i64 (n:Int))],[]⟩) (fun i n=>n=(rulesOf (rules.take i) p).length) (fun i n hi hn=>by
  have hle:n≤i:=by
   have:(rulesOf (rules.take i) p).length≤(rules.take i).length:=List.length_filter_le ..
   rw [List.length_take] at this
   omega
  obtain ⟨e,t,⟨rfl,y,m,hy,hm,rfl⟩,h⟩:=t19 rules p n i hi hsm hle
  have htk:rules.take (i+1)=rules.take i++[rules[i]]:=List.take_succ_eq_append_getElem hi
  have e1:rules[i]=y:=by rw [List.getElem?_eq_getElem hi] at hy;exact Option.some.inj hy
  refine ⟨_,_,⟨rfl,m,?_,rfl⟩,h⟩
  rw [htk,rulesOf_app,e1,List.length_append,←hn]
  rcases hm with ⟨h1,h2⟩|⟨h1,h2⟩
  ·rw [if_pos h1,h2];rfl
  ·rw [if_neg h1,h2];rfl) (fun n _=>e19 rules p n) 0 (by simp [rulesOf])
 rw [List.take_length] at h1
 rw [h1] at h
 exact h
abbrev Z2o9 (L:List Ad) (nm:ByteArray):St:=⟨[Z2o2 L,(1,.str nm),Z2o6],[]⟩
theorem l22_0 (L:List Ad) (nm:ByteArray) (hsm:L.length≤1000) (hs:∀a:Ad,a∈L→a.1.size<1000000∧a.2.size<1000000):
  (∃(i:Nat) (a:Ad),L[i]? =some a∧nameT a.1 a.2=nm∧Lo 20 (loopOf Tryz.f22 0) (Z2o9 L nm) .ret (Z2o7 i))∨
  ((∀a,a∈L→nameT a.1 a.2≠nm)∧Lo 20 (loopOf Tryz.f22 0) (Z2o9 L nm) (.exit 0) ⟨[],[]⟩):=by
 rcases range_inv (P:=Tryz.prog) (n:=20) (c:=loopOf Tryz.f22 0) (N:=L.length) (k:=0) (fun i=>⟨[Z2o2 L,(1,.str nm),Z2o3 i],[]⟩) ⟨[],[]⟩ (fun t=>∃(i:Nat) (a:Ad),L[i]? =some a∧nameT a.1 a.2=nm∧t=(Z2o7 i)) (fun i=>∃a:Ad,L[i]? =some a∧nameT a.1 a.2≠nm) (fun i hi=>by
  obtain ⟨e,t,⟨rfl,⟨a,h1,h2⟩,rfl⟩|⟨rfl,h1,rfl⟩,h⟩:=t22 L nm i hi hsm hs
  ·exact ⟨_,_,.inl ⟨rfl,i,a,h1,h2,rfl⟩,h⟩
  ·exact ⟨_,_,.inr ⟨rfl,rfl,h1⟩,h⟩) (e22 L nm) with ⟨t,h,i,a,h1,h2,rfl⟩|⟨h,hr⟩
 ·exact .inl ⟨i,a,h1,h2,h⟩
 ·refine .inr ⟨fun a ha=> ?_,h⟩
  obtain ⟨i,hi⟩:=List.mem_iff_getElem?.1 ha
  obtain ⟨b,h1,h2⟩:=hr i (List.getElem?_eq_some_iff.1 hi).1
  rw [hi] at h1;injection h1 with h1;subst h1;exact h2
def bfs (s:ByteArray):Prop:=∀b:UInt8,b∈s.data.toList→b=98∨b=102
theorem l23_0 (s:ByteArray) (n:Nat) (hsm:s.size≤1000) (hb:bfs s):Lo 26 (loopOf Tryz.f23 0) ⟨[(0,.str s),Z2o5 n,Z2o6],[]⟩ (.exit 0) (Z2o8 s n):=by
 refine (Loops.from (st:=fun i=>⟨[(0,.str s),Z2o5 n,(5,.int .i64 (i:Int))],[]⟩) (N:=s.size) (fun i hi=> ?_) ?_)
 ·obtain ⟨e,t,⟨rfl,rfl⟩,h⟩:=t23 s n i hi hsm (fun x ⟨b,h1,h2⟩=>by
   rcases hb b (List.mem_of_getElem? h1) with rfl|rfl
   ·left;rw [h2];rfl
   ·right;rw [h2];rfl)
  exact h
 ·obtain ⟨e,t,⟨rfl,rfl⟩,h⟩:=e23 s n
  exact .leave h (by simp)
theorem b19 (rules:List Ru) (p:ByteArray) (l19_0q:Lo 23 (loopOf Tryz.f19 0) ⟨[Z2o0 rules,(1,.str p),Z2o6,(6,.int .i64 0)],[]⟩ (.exit 0) ⟨[(5,.int .i64 (((rulesOf rules p).length:Nat):Int))],[]⟩):En 23 (bodyOf Tryz.f19) ⟨[Z2o0 rules,(1,.str p)],[]⟩ (fun e t=>e= .ret∧t=⟨[(4,.int .i64 (((rulesOf rules p).length:Nat):Int))],[]⟩):=by
 have hl0:=l19_0q
 exact gE ⟨rfl,rfl⟩ 0 [.cut [0,1,5,6] [],.sum (.exit 0) [(5,.int .i64 (↑(rulesOf rules p).length:Int))] []] [4] [] (aC1 hl0)
theorem b22r (L:List Ad) (nm:ByteArray) (i:Nat) (l22_0q:Lo 20 (loopOf Tryz.f22 0) (Z2o9 L nm) .ret (Z2o7 i)):En 20 (bodyOf Tryz.f22) ⟨[Z2o2 L,(1,.str nm)],[]⟩ (fun e t=>e= .ret∧t=(Z2o7 i)):=by
 have hl0:=l22_0q
 exact gE ⟨rfl,rfl⟩ 0 [.cut [0,1,5] [],.sum .ret [Z2o4 i] []] [4] [] (aC1 hl0)
theorem b22e (L:List Ad) (nm:ByteArray) (l22_0q:Lo 20 (loopOf Tryz.f22 0) (Z2o9 L nm) (.exit 0) ⟨[],[]⟩):En 20 (bodyOf Tryz.f22) ⟨[Z2o2 L,(1,.str nm)],[]⟩ (fun e t=>e= .ret∧t=⟨[(4,.int .i64 (-1))],[]⟩):=by
 have hl0:=l22_0q
 exact gE ⟨rfl,rfl⟩ 0 [.cut [0,1,5] [],.sum (.exit 0) [] []] [4] [] (aC1 hl0)
theorem b23 (s:ByteArray) (n:Nat) (hn:decide (((s.size:Nat):Int)=(n:Int))=true) (l23_0q:Lo 26 (loopOf Tryz.f23 0) ⟨[(0,.str s),Z2o5 n,Z2o6],[]⟩ (.exit 0) (Z2o8 s n)):En 26 (bodyOf Tryz.f23) (Z2o8 s n) (fun e t=>e= .ret∧∃rb:Bool,rb=true∧t=⟨[(4,.bool rb)],[]⟩):=by
 have hl0:=l23_0q
 rcases bft (decide ((↑(ByteArray.size s):Int)=(↑n:Int))) with h1|h1
 ·exact ⟨Out.ret,St.mk [(4,.bool true)] [],⟨rfl,_,by first|rfl|simp_all,rfl⟩,gA 0 [.cut [0,1,5] [],.sum (.exit 0) [(0,.str s),Z2o5 n] [],.is true] [4] [] (by kernel_rfl) (aC2 hl0 h1)⟩
 ·exact ⟨Out.ret,St.mk [(4,.bool false)] [],⟨rfl,_,by first|rfl|simp_all,rfl⟩,gA 0 [.cut [0,1,5] [],.sum (.exit 0) [(0,.str s),Z2o5 n] [],.is false] [4] [] (by kernel_rfl) (aC2 hl0 h1)⟩
theorem k19 (rules:List Ru) (p:ByteArray) (hsm:rules.length≤2000000):Sp 19 [.seq (rules.map Ru.av) false,.str p] [] (.int .i64 (((rulesOf rules p).length:Nat):Int)) []:=by
 obtain ⟨e,t,⟨rfl,rfl⟩,h⟩:=b19 rules p (l19_0 rules p hsm)
 exact Spec.pure (fn:=Tryz.f19) (c:=bodyOf Tryz.f19) (by kernel_rfl) (by kernel_rfl) rfl h (.inr rfl) (by kernel_rfl) rfl
theorem k22 (L:List Ad) (nm:ByteArray) (hsm:L.length≤1000) (hs:∀a:Ad,a∈L→a.1.size<1000000∧a.2.size<1000000):∃rn:Int,Sp 22 [.seq (L.map adA) false,.str nm] [] (.int .i64 rn) []∧((rn= -1∧∀a,a∈L→nameT a.1 a.2≠nm)∨∃(i:Nat) (a:Ad),rn=(i:Int)∧L[i]? =some a∧nameT a.1 a.2=nm):=by
 rcases l22_0 L nm hsm hs with ⟨i,a,h1,h2,hL⟩|⟨h1,hL⟩
 ·obtain ⟨e,t,⟨rfl,rfl⟩,h⟩:=b22r L nm i hL
  exact ⟨_,Spec.pure (fn:=Tryz.f22) (c:=bodyOf Tryz.f22) (by kernel_rfl) (by kernel_rfl) rfl h (.inr rfl) (by kernel_rfl) rfl,.inr ⟨i,a,rfl,h1,h2⟩⟩
 ·obtain ⟨e,t,⟨rfl,rfl⟩,h⟩:=b22e L nm hL
  exact ⟨_,Spec.pure (fn:=Tryz.f22) (c:=bodyOf Tryz.f22) (by kernel_rfl) (by kernel_rfl) rfl h (.inr rfl) (by kernel_rfl) rfl,.inl ⟨rfl,h1⟩⟩
theorem k23 (s:ByteArray) (n:Nat) (hn:s.size=n) (hsm:s.size≤1000) (hb:bfs s):Sp 23 [.str s,.int .i64 (n:Int)] [] (.bool true) []:=by
 obtain ⟨e,t,⟨rfl,rb,rfl,rfl⟩,h⟩:=b23 s n (decide_eq_true (by omega)) (l23_0 s n hsm hb)
 exact Spec.pure (fn:=Tryz.f23) (c:=bodyOf Tryz.f23) (by kernel_rfl) (by kernel_rfl) rfl h (.inr rfl) (by kernel_rfl) rfl
inductive ExS:Ex→Prop where
 |mk (o:Int) (t:Tm) (ks:List Ex) (h:ks.length<10000000000000) (hk:∀k,k∈ks→ExS k):ExS (.mk o t ks)
theorem ExS.len {x:Ex} (h:ExS x):x.kids.length<10000000000000:=by cases h;assumption
theorem ExS.kid {x:Ex} (h:ExS x):∀k,k∈x.kids→ExS k:=by cases h;assumption
theorem ok_exs (l:List Ex):∀e,e∈l.map Ex.av→okE 6 e:=fun e he=>by
 obtain ⟨x,_,rfl⟩:=List.mem_map.1 he
 simp
@[simp] theorem noIdsL_exs' (l:List Ex):noIdsL (l.map Ex.av)=true:=noIdsL_exs l
abbrev Z2p0 (lf:Int):Nat×AV:=(1,.int .i64 lf)
abbrev Z2p1 (n:Int):Nat×AV:=(5,.int .i64 n)
abbrev Z2p2 (dp:Int):Nat×AV:=(7,.int .i64 dp)
abbrev Z2p3 (i:Nat):Nat×AV:=(9,.int .i64 (i:Int))
abbrev Z2p4 (k:Nat):Nat×AV:=(10,.int .i64 (k:Int))
abbrev Z2p5 (es:List Ex):Nat×Ob:=(312,.row 6 (es.map Ex.av))
abbrev Z2p6 (k:Nat):Nat×AV:=(10,.int .i64 ((k+1:Nat):Int))
theorem t120iz (lf n dp:Int) (es:List Ex) (hes:es.length≤1048577) (i k:Nat) (x:Ex) (hi:i<es.length) (hx:(es.map Ex.av)[0+Int.toNat (i:Int)]? =some (.agg x.cells)) (y:Ex) (hk:k<x.kids.length) (hkl:x.kids.length<10000000000000) (hy:0≤(k:Int)∧(x.kids.map Ex.av)[Int.toNat (k:Int)]? =some (.agg y.cells)):EN 75 (loopOf Tryz.f120 2) ⟨[Z2p0 lf,Z2p1 n,(6,.row 312 0 (es.map Ex.av).length),Z2p2 dp,(8,.nils),Z2p3 i,Z2p4 k],[Z2p5 es]⟩ ⟨[Z2p0 lf,Z2p1 n,(6,.row 312 0 (es.map Ex.av).length),Z2p2 dp,(8,.row 372 0 1),Z2p3 i,Z2p6 k],[Z2p5 es,(372,.row 6 [.agg y.cells])]⟩:=by
 exact gE ⟨rfl,rfl⟩ 0 [.elt (.agg (Ex.cells x)),.is true,.elt (.agg (Ex.cells x)),.elt (.agg (Ex.cells y)),.is true] [1,5,6,7,8,9,10] [(312,.keep 312 true),(72,.keep 372 true)] (aC10 (show 0≤(i:Int)∧(i:Int)<(↑(es.map Ex.av).length:Int) from by simp;omega) hx (show decide ((k:Int)<(↑(List.length (x.kids.map Ex.av)):Int))=true from by simp;omega) (show 0≤(i:Int)∧(i:Int)<(↑(es.map Ex.av).length:Int) from by simp;omega) hx hy (show 1≤List.length [AV.agg [AV.int .i8 (Ex.op y),AV.str (Ex.t y).1,AV.int .i8 (Ex.t y).2,AV.int .i64 (Ex.t y).3,AV.str (Ex.t y).4,AV.seq (y.kids.map Ex.av) false]]∧[AV.agg [AV.int .i8 (Ex.op y),AV.str (Ex.t y).1,AV.int .i8 (Ex.t y).2,AV.int .i64 (Ex.t y).3,AV.str (Ex.t y).4,AV.seq (y.kids.map Ex.av) false]]≠[]∧(∀(e:AV),e∈[AV.agg [AV.int .i8 (Ex.op y),AV.str (Ex.t y).1,AV.int .i8 (Ex.t y).2,AV.int .i64 (Ex.t y).3,AV.str (Ex.t y).4,AV.seq (y.kids.map Ex.av) false]]→okE 6 e)∧(∀(e:AV),e∈[]→okE 6 e)∧(↑(0+List.length [AV.agg [AV.int .i8 (Ex.op y),AV.str (Ex.t y).1,AV.int .i8 (Ex.t y).2,AV.int .i64 (Ex.t y).3,AV.str (Ex.t y).4,AV.seq (y.kids.map Ex.av) false]]):Int)*80≤140737488355328∧0+List.length [AV.agg [AV.int .i8 (Ex.op y),AV.str (Ex.t y).1,AV.int .i8 (Ex.t y).2,AV.int .i64 (Ex.t y).3,AV.str (Ex.t y).4,AV.seq (y.kids.map Ex.av) false]]≤9223372036854775807 from by simp) (show IntKind.wrap .i64 ((k:Int)+1)=(k:Int)+1 from wrap64_id (by omega) (by omega)) (show noIdsL (es.map Ex.av)=true from by simp) rT)
abbrev Z2pe (lf n dp:Int) (es:List Ex) (i:Nat):St:=⟨[Z2p0 lf,Z2p1 n,(6,.row 312 0 (es.map Ex.av).length),Z2p2 dp,(8,.nils),Z2p3 i],[Z2p5 es]⟩
theorem e120iz (lf n dp:Int) (es:List Ex) (hes:es.length≤1048577) (i:Nat) (x:Ex) (hi:i<es.length) (hx:(es.map Ex.av)[0+Int.toNat (i:Int)]? =some (.agg x.cells)):En 75 (loopOf Tryz.f120 2) ⟨[Z2p0 lf,Z2p1 n,(6,.row 312 0 (es.map Ex.av).length),Z2p2 dp,(8,.nils),Z2p3 i,(10,.int .i64 ((x.kids.length:Nat):Int))],[Z2p5 es]⟩ (fun e t=>e= .exit 4∧t=(Z2pe lf n dp es i)):=by
 exact gE ⟨rfl,rfl⟩ 0 [.elt (.agg (Ex.cells x)),.is false] [1,5,6,7,8,9] [(312,.keep 312 true)] (aC4 (show 0≤(i:Int)∧(i:Int)<(↑(es.map Ex.av).length:Int) from by simp;omega) hx (show decide ((↑(List.length (Ex.kids x)):Int)<(↑(List.length (x.kids.map Ex.av)):Int))=false from by simp) (show noIdsL (es.map Ex.av)=true from by simp))
abbrev Z2p7 (nx:List Ex):Nat×Ob:=(372,.row 6 (nx.map Ex.av))
theorem t120is (lf n dp:Int) (es:List Ex) (hes:es.length≤1048577) (nx:List Ex) (hnl:nx.length≤1048577) (hok:∀e,e∈nx.map Ex.av→okE 6 e) (i k:Nat) (x:Ex) (hi:i<es.length) (hx:(es.map Ex.av)[0+Int.toNat (i:Int)]? =some (.agg x.cells)) (y:Ex) (hk:k<x.kids.length) (hkl:x.kids.length<10000000000000) (hy:0≤(k:Int)∧(x.kids.map Ex.av)[Int.toNat (k:Int)]? =some (.agg y.cells)):EN 75 (loopOf Tryz.f120 2) ⟨[Z2p0 lf,Z2p1 n,(6,.row 312 0 (es.map Ex.av).length),Z2p2 dp,(8,.row 372 0 (nx.map Ex.av).length),Z2p3 i,Z2p4 k],[Z2p5 es,Z2p7 nx]⟩ ⟨[Z2p0 lf,Z2p1 n,(6,.row 312 0 (es.map Ex.av).length),Z2p2 dp,(8,.row 372 0 ((nx.map Ex.av).length+1)),Z2p3 i,Z2p6 k],[Z2p5 es,(372,.row 6 (nx.map Ex.av++[.agg y.cells]))]⟩:=by
 exact gE ⟨rfl,rfl⟩ 0 [.elt (.agg (Ex.cells x)),.is true,.elt (.agg (Ex.cells x)),.elt (.agg (Ex.cells y)),.is true] [1,5,6,7,8,9,10] [(312,.keep 312 true),(72,.keep 372 true)] (aC10 (show 0≤(i:Int)∧(i:Int)<(↑(es.map Ex.av).length:Int) from by simp;omega) hx (show decide ((k:Int)<(↑(List.length (x.kids.map Ex.av)):Int))=true from by simp;omega) (show 0≤(i:Int)∧(i:Int)<(↑(es.map Ex.av).length:Int) from by simp;omega) hx hy (show (1:Nat)≤List.length [AV.agg [AV.int .i8 (Ex.op y),AV.str (Ex.t y).1,AV.int .i8 (Ex.t y).2,AV.int .i64 (Ex.t y).3,AV.str (Ex.t y).4,AV.seq (y.kids.map Ex.av) false]]∧(0:Nat)=(0:Nat)∧List.length (nx.map Ex.av)=List.length (nx.map Ex.av)∧(∀(e:AV),e∈[AV.agg [AV.int .i8 (Ex.op y),AV.str (Ex.t y).1,AV.int .i8 (Ex.t y).2,AV.int .i64 (Ex.t y).3,AV.str (Ex.t y).4,AV.seq (y.kids.map Ex.av) false]]→okE (6:Nat) e)∧(∀(e:AV),e∈List.map Ex.av nx→okE (6:Nat) e)∧(↑(List.length (nx.map Ex.av)+List.length [AV.agg [AV.int .i8 (Ex.op y),AV.str (Ex.t y).1,AV.int .i8 (Ex.t y).2,AV.int .i64 (Ex.t y).3,AV.str (Ex.t y).4,AV.seq (y.kids.map Ex.av) false]]):Int)*(80:Int)≤(140737488355328:Int)∧List.length (nx.map Ex.av)+List.length [AV.agg [AV.int .i8 (Ex.op y),AV.str (Ex.t y).1,AV.int .i8 (Ex.t y).2,AV.int .i64 (Ex.t y).3,AV.str (Ex.t y).4,AV.seq (y.kids.map Ex.av) false]]≤(9223372036854775807:Nat) from by simp;omega) (show IntKind.wrap .i64 ((k:Int)+1)=(k:Int)+1 from wrap64_id (by omega) (by omega)) (show noIdsL (es.map Ex.av)=true from by simp) (show noIdsL (List.map Ex.av nx++[AV.agg [AV.int .i8 (Ex.op y),AV.str (Ex.t y).1,AV.int .i8 (Ex.t y).2,AV.int .i64 (Ex.t y).3,AV.str (Ex.t y).4,AV.seq (y.kids.map Ex.av) false]])=true from by simp))
abbrev Z2pf (lf n dp:Int) (es nx:List Ex) (i:Nat):St:=⟨[Z2p0 lf,Z2p1 n,(6,.row 312 0 (es.map Ex.av).length),Z2p2 dp,(8,.row 372 0 (nx.map Ex.av).length),Z2p3 i],[Z2p5 es,Z2p7 nx]⟩
theorem e120is (lf n dp:Int) (es:List Ex) (hes:es.length≤1048577) (nx:List Ex) (i:Nat) (x:Ex) (hi:i<es.length) (hx:(es.map Ex.av)[0+Int.toNat (i:Int)]? =some (.agg x.cells)):En 75 (loopOf Tryz.f120 2) ⟨[Z2p0 lf,Z2p1 n,(6,.row 312 0 (es.map Ex.av).length),Z2p2 dp,(8,.row 372 0 (nx.map Ex.av).length),Z2p3 i,(10,.int .i64 ((x.kids.length:Nat):Int))],[Z2p5 es,Z2p7 nx]⟩ (fun e t=>e= .exit 4∧t=(Z2pf lf n dp es nx i)):=by
 exact gE ⟨rfl,rfl⟩ 0 [.elt (.agg (Ex.cells x)),.is false] [1,5,6,7,8,9] [(312,.keep 312 true),(372,.keep 372 true)] (aC5 (show 0≤(i:Int)∧(i:Int)<(↑(es.map Ex.av).length:Int) from by simp;omega) hx (show decide ((↑(List.length (Ex.kids x)):Int)<(↑(List.length (x.kids.map Ex.av)):Int))=false from by simp) (show noIdsL (es.map Ex.av)=true from by simp) (show noIdsL (nx.map Ex.av)=true from by simp))
def nV:List Ex→AV
 |[]=> .nils
 |x::r=> .row 372 0 ((x::r).map Ex.av).length
def nP:List Ex→List (Nat×Ob)
 |[]=>[]
 |x::r=>[(372,.row 6 ((x::r).map Ex.av))]
abbrev Z2p8:Nat×AV:=(10,.int .i64 0)
theorem l120_2 (lf n dp:Int) (es:List Ex) (hes:es.length≤1048577) (nx:List Ex) (i:Nat) (x:Ex) (hi:i<es.length) (hx:(es.map Ex.av)[0+Int.toNat (i:Int)]? =some (.agg x.cells)) (hkl:nx.length+x.kids.length≤1048577):Lo 75 (loopOf Tryz.f120 2) ⟨[Z2p0 lf,Z2p1 n,(6,.row 312 0 (es.map Ex.av).length),Z2p2 dp,(8,nV nx),Z2p3 i,Z2p8],Z2p5 es::nP nx⟩ (.exit 4) ⟨[Z2p0 lf,Z2p1 n,(6,.row 312 0 (es.map Ex.av).length),Z2p2 dp,(8,nV (nx++x.kids)),Z2p3 i],Z2p5 es::nP (nx++x.kids)⟩:=by
 have h:=Loops.from (P:=Tryz.prog) (n:=75) (c:=loopOf Tryz.f120 2) (e:= .exit 4) (st':=⟨[Z2p0 lf,Z2p1 n,(6,.row 312 0 (es.map Ex.av).length),Z2p2 dp,(8,nV (nx++x.kids)),Z2p3 i],Z2p5 es::nP (nx++x.kids)⟩) (st:=fun k=>⟨[Z2p0 lf,Z2p1 n,(6,.row 312 0 (es.map Ex.av).length),Z2p2 dp,(8,nV (nx++x.kids.take k)),Z2p3 i,(10,.int .i64 (k:Int))],Z2p5 es::nP (nx++x.kids.take k)⟩) (N:=x.kids.length) ?_ ?_
 ·simpa using h
 ·intro k hk
  have hy:x.kids[k]? =some x.kids[k]:=List.getElem?_eq_getElem hk
  have htk:x.kids.take (k+1)=x.kids.take k++[x.kids[k]]:=List.take_succ_eq_append_getElem hk
  show Rz 75 (loopOf Tryz.f120 2) ⟨[Z2p0 lf,Z2p1 n,(6,.row 312 0 (es.map Ex.av).length),Z2p2 dp,(8,nV (nx++x.kids.take k)),Z2p3 i,(10,.int .i64 (k:Int))],Z2p5 es::nP (nx++x.kids.take k)⟩ .normal ⟨[Z2p0 lf,Z2p1 n,(6,.row 312 0 (es.map Ex.av).length),Z2p2 dp,(8,nV (nx++x.kids.take (k+1))),Z2p3 i,(10,.int .i64 ((k+1:Nat):Int))],Z2p5 es::nP (nx++x.kids.take (k+1))⟩
  rw [htk,←List.append_assoc]
  generalize x.kids[k]=y at hy
  have hy':0≤(k:Int)∧(x.kids.map Ex.av)[Int.toNat (k:Int)]? =some (.agg y.cells):=⟨by omega,by rw [Int.toNat_natCast,List.getElem?_map,hy,Option.map_some,Ex.av_eq]⟩
  have hl:(nx++x.kids.take k).length≤1048577:=by rw [List.length_append,List.length_take];omega
  generalize nx++x.kids.take k=m at hl
  cases m with
  |nil=>
   obtain ⟨e,t,⟨rfl,rfl⟩,h⟩:=t120iz lf n dp es hes i k x hi hx y hk (by omega) hy'
   rw [←Ex.av_eq] at h
   exact h
  |cons a r=>
   obtain ⟨e,t,⟨rfl,rfl⟩,h⟩:=t120is lf n dp es hes (a::r) hl (ok_exs _) i k x hi hx y hk (by omega) hy'
   rw [←Ex.av_eq,show ((a::r).map Ex.av).length+1=(((a::r)++[y]).map Ex.av).length from by simp,show (a::r).map Ex.av++[y.av]=((a::r)++[y]).map Ex.av from by simp] at h
   exact h
 ·rw [List.take_length]
  generalize nx++x.kids=m
  cases m with
  |nil=>
   obtain ⟨e,t,⟨rfl,rfl⟩,h⟩:=e120iz lf n dp es hes i x hi hx
   exact .leave h (by simp)
  |cons a r=>
   obtain ⟨e,t,⟨rfl,rfl⟩,h⟩:=e120is lf n dp es hes (a::r) i x hi hx
   exact .leave h (by simp)
abbrev Z2p9 (i:Nat):Nat×AV:=(9,.int .i64 ((i+1:Nat):Int))
abbrev Z2pg (lf n dp:Int) (es:List Ex) (i:Nat):St:=⟨[Z2p0 lf,Z2p1 n,(6,.row 312 0 (es.map Ex.av).length),Z2p2 dp,(8,.nils),Z2p3 i,Z2p8],[Z2p5 es]⟩
theorem m120nzz (lf n dp:Int) (es:List Ex) (hes:es.length≤1048577) (hn:0≤n∧n≤1048577) (hlf:0≤lf∧lf≤1048577) (i:Nat) (x:Ex) (hi:i<es.length) (hx:(es.map Ex.av)[0+Int.toNat (i:Int)]? =some (.agg x.cells)) (hkl:(x.kids.map Ex.av).length<10000000000000) (hc:decide (lf<n+0+((x.kids.map Ex.av).length:Nat))=false) (l120_2q:Lo 75 (loopOf Tryz.f120 2) (Z2pg lf n dp es i) (.exit 4) (Z2pe lf n dp es i)):EN 75 (loopOf Tryz.f120 1) (Z2pe lf n dp es i) ⟨[Z2p0 lf,Z2p1 n,(6,.row 312 0 (es.map Ex.av).length),Z2p2 dp,(8,.nils),Z2p9 i],[Z2p5 es]⟩:=by
 have hl0:=l120_2q
 exact gE ⟨rfl,rfl⟩ 0 [.is true,.elt (.agg (Ex.cells x)),.is false,.cut [1,5,6,7,8,9,10] [(312,.keep 312 true)],.sum (.exit 4) [Z2p0 lf,Z2p1 n,(6,.row 312 0 (es.map Ex.av).length),Z2p2 dp,(8,.nils),Z2p3 i] [Z2p5 es]] [1,5,6,7,8,9] [(312,.keep 312 true)] (aC10 (show decide ((i:Int)<(↑(es.map Ex.av).length:Int))=true from by simp;omega) (show IntKind.wrap .i64 (n+0)=n+0 from wrap64_id (by omega) (by omega)) (show 0≤(i:Int)∧(i:Int)<(↑(es.map Ex.av).length:Int) from by simp;omega) hx (show IntKind.wrap .i64 (n+0+(↑(List.length (x.kids.map Ex.av)):Int))=n+0+(↑(List.length (x.kids.map Ex.av)):Int) from wrap64_id (by omega) (by omega)) hc (show noIdsL (es.map Ex.av)=true from by simp) hl0 (show IntKind.wrap .i64 ((i:Int)+1)=(i:Int)+1 from wrap64_id (by omega) (by omega)) (show noIdsL (es.map Ex.av)=true from by simp))
abbrev Z2pa (nx2:List Ex):Nat×Ob:=(372,.row 6 (nx2.map Ex.av))
abbrev Z2ph (lf n dp:Int) (es nx2:List Ex) (i:Nat):St:=⟨[Z2p0 lf,Z2p1 n,(6,.row 312 0 (es.map Ex.av).length),Z2p2 dp,(8,.row 372 0 (nx2.map Ex.av).length),Z2p3 i],[Z2p5 es,Z2pa nx2]⟩
abbrev Z2pi (lf n dp:Int) (es nx2:List Ex) (i:Nat):St:=⟨[Z2p0 lf,Z2p1 n,(6,.row 312 0 (es.map Ex.av).length),Z2p2 dp,(8,.row 372 0 (nx2.map Ex.av).length),Z2p9 i],[Z2p5 es,Z2pa nx2]⟩
theorem m120nzs (lf n dp:Int) (es:List Ex) (hes:es.length≤1048577) (nx2:List Ex) (hn:0≤n∧n≤1048577) (hlf:0≤lf∧lf≤1048577) (i:Nat) (x:Ex) (hi:i<es.length) (hx:(es.map Ex.av)[0+Int.toNat (i:Int)]? =some (.agg x.cells)) (hkl:(x.kids.map Ex.av).length<10000000000000) (hc:decide (lf<n+0+((x.kids.map Ex.av).length:Nat))=false) (l120_2q:Lo 75 (loopOf Tryz.f120 2) (Z2pg lf n dp es i) (.exit 4) (Z2ph lf n dp es nx2 i)):EN 75 (loopOf Tryz.f120 1) (Z2pe lf n dp es i) (Z2pi lf n dp es nx2 i):=by
 have hl0:=l120_2q
 exact gE ⟨rfl,rfl⟩ 0 [.is true,.elt (.agg (Ex.cells x)),.is false,.cut [1,5,6,7,8,9,10] [(312,.keep 312 true)],.sum (.exit 4) [Z2p0 lf,Z2p1 n,(6,.row 312 0 (es.map Ex.av).length),Z2p2 dp,(8,.row 372 0 (nx2.map Ex.av).length),Z2p3 i] [Z2p5 es,Z2pa nx2]] [1,5,6,7,8,9] [(312,.keep 312 true),(372,.keep 372 true)] (aC11 (show decide ((i:Int)<(↑(es.map Ex.av).length:Int))=true from by simp;omega) (show IntKind.wrap .i64 (n+0)=n+0 from wrap64_id (by omega) (by omega)) (show 0≤(i:Int)∧(i:Int)<(↑(es.map Ex.av).length:Int) from by simp;omega) hx (show IntKind.wrap .i64 (n+0+(↑(List.length (x.kids.map Ex.av)):Int))=n+0+(↑(List.length (x.kids.map Ex.av)):Int) from wrap64_id (by omega) (by omega)) hc (show noIdsL (es.map Ex.av)=true from by simp) hl0 (show IntKind.wrap .i64 ((i:Int)+1)=(i:Int)+1 from wrap64_id (by omega) (by omega)) (show noIdsL (es.map Ex.av)=true from by simp) (show noIdsL (nx2.map Ex.av)=true from by simp))
theorem m120nss (lf n dp:Int) (es:List Ex) (hes:es.length≤1048577) (nx nx2:List Ex) (hnl:(nx.map Ex.av).length≤1048577) (hn:0≤n∧n≤1048577) (hlf:0≤lf∧lf≤1048577) (i:Nat) (x:Ex) (hi:i<es.length) (hx:(es.map Ex.av)[0+Int.toNat (i:Int)]? =some (.agg x.cells)) (hkl:(x.kids.map Ex.av).length<10000000000000) (hc:decide (lf<n+((nx.map Ex.av).length:Nat)+((x.kids.map Ex.av).length:Nat))=false) (l120_2q:Lo 75 (loopOf Tryz.f120 2) ⟨[Z2p0 lf,Z2p1 n,(6,.row 312 0 (es.map Ex.av).length),Z2p2 dp,(8,.row 372 0 (nx.map Ex.av).length),Z2p3 i,Z2p8],[Z2p5 es,Z2p7 nx]⟩ (.exit 4) (Z2ph lf n dp es nx2 i)):EN 75 (loopOf Tryz.f120 1) (Z2pf lf n dp es nx i) (Z2pi lf n dp es nx2 i):=by
 have hl0:=l120_2q
 exact gE ⟨rfl,rfl⟩ 0 [.is true,.elt (.agg (Ex.cells x)),.is false,.cut [1,5,6,7,8,9,10] [(312,.keep 312 true),(372,.keep 372 true)],.sum (.exit 4) [Z2p0 lf,Z2p1 n,(6,.row 312 0 (es.map Ex.av).length),Z2p2 dp,(8,.row 372 0 (nx2.map Ex.av).length),Z2p3 i] [Z2p5 es,Z2pa nx2]] [1,5,6,7,8,9] [(312,.keep 312 true),(372,.keep 372 true)] (aC12 (show decide ((i:Int)<(↑(es.map Ex.av).length:Int))=true from by simp;omega) (show IntKind.wrap .i64 (n+(↑(nx.map Ex.av).length:Int))=n+(↑(nx.map Ex.av).length:Int) from wrap64_id (by omega) (by omega)) (show 0≤(i:Int)∧(i:Int)<(↑(es.map Ex.av).length:Int) from by simp;omega) hx (show IntKind.wrap .i64 (n+(↑(nx.map Ex.av).length:Int)+(↑(List.length (x.kids.map Ex.av)):Int))=n+(↑(nx.map Ex.av).length:Int)+(↑(List.length (x.kids.map Ex.av)):Int) from wrap64_id (by omega) (by omega)) hc (show noIdsL (es.map Ex.av)=true from by simp) (show noIdsL (nx.map Ex.av)=true from by simp) hl0 (show IntKind.wrap .i64 ((i:Int)+1)=(i:Int)+1 from wrap64_id (by omega) (by omega)) (show noIdsL (es.map Ex.av)=true from by simp) (show noIdsL (nx2.map Ex.av)=true from by simp))
abbrev Z2pb (lf:Int):Nat×AV:=(4,.int .i64 (lf+1))
abbrev Z2pj (lf:Int):St:=⟨[Z2pb lf],[]⟩
theorem m120rz (lf n dp:Int) (es:List Ex) (hes:es.length≤1048577) (hn:0≤n∧n≤1048577) (hlf:0≤lf∧lf≤1048577) (i:Nat) (x:Ex) (hi:i<es.length) (hx:(es.map Ex.av)[0+Int.toNat (i:Int)]? =some (.agg x.cells)) (hkl:(x.kids.map Ex.av).length<10000000000000) (hc:decide (lf<n+0+((x.kids.map Ex.av).length:Nat))=true):En 75 (loopOf Tryz.f120 1) (Z2pe lf n dp es i) (fun e t=>e= .ret∧t=(Z2pj lf)):=by
 exact gE ⟨rfl,rfl⟩ 0 [.is true,.elt (.agg (Ex.cells x)),.is true] [4] [] (aC7 (show decide ((i:Int)<(↑(es.map Ex.av).length:Int))=true from by simp;omega) (show IntKind.wrap .i64 (n+0)=n+0 from wrap64_id (by omega) (by omega)) (show 0≤(i:Int)∧(i:Int)<(↑(es.map Ex.av).length:Int) from by simp;omega) hx (show IntKind.wrap .i64 (n+0+(↑(List.length (x.kids.map Ex.av)):Int))=n+0+(↑(List.length (x.kids.map Ex.av)):Int) from wrap64_id (by omega) (by omega)) hc (show IntKind.wrap .i64 (lf+1)=lf+1 from wrap64_id (by omega) (by omega)))
theorem m120ez (lf n dp:Int) (es:List Ex) (hes:es.length≤1048577):En 75 (loopOf Tryz.f120 1) ⟨[Z2p0 lf,Z2p1 n,(6,.row 312 0 (es.map Ex.av).length),Z2p2 dp,(8,.nils),(9,.int .i64 ((es.length:Nat):Int))],[Z2p5 es]⟩ (fun e t=>e= .exit 2∧t=⟨[Z2p0 lf,Z2p1 n,(6,.row 312 0 (es.map Ex.av).length),Z2p2 dp,(8,.nils)],[Z2p5 es]⟩):=by
 exact gE ⟨rfl,rfl⟩ 0 [.is false] [1,5,6,7,8] [(312,.keep 312 true)] (aC2 (show decide ((↑es.length:Int)<(↑(es.map Ex.av).length:Int))=false from by simp) (show noIdsL (es.map Ex.av)=true from by simp))
theorem m120rs (lf n dp:Int) (es:List Ex) (hes:es.length≤1048577) (nx:List Ex) (hnl:(nx.map Ex.av).length≤1048577) (hn:0≤n∧n≤1048577) (hlf:0≤lf∧lf≤1048577) (i:Nat) (x:Ex) (hi:i<es.length) (hx:(es.map Ex.av)[0+Int.toNat (i:Int)]? =some (.agg x.cells)) (hkl:(x.kids.map Ex.av).length<10000000000000) (hc:decide (lf<n+((nx.map Ex.av).length:Nat)+((x.kids.map Ex.av).length:Nat))=true):En 75 (loopOf Tryz.f120 1) (Z2pf lf n dp es nx i) (fun e t=>e= .ret∧t=(Z2pj lf)):=by
 exact gE ⟨rfl,rfl⟩ 0 [.is true,.elt (.agg (Ex.cells x)),.is true] [4] [] (aC7 (show decide ((i:Int)<(↑(es.map Ex.av).length:Int))=true from by simp;omega) (show IntKind.wrap .i64 (n+(↑(nx.map Ex.av).length:Int))=n+(↑(nx.map Ex.av).length:Int) from wrap64_id (by omega) (by omega)) (show 0≤(i:Int)∧(i:Int)<(↑(es.map Ex.av).length:Int) from by simp;omega) hx (show IntKind.wrap .i64 (n+(↑(nx.map Ex.av).length:Int)+(↑(List.length (x.kids.map Ex.av)):Int))=n+(↑(nx.map Ex.av).length:Int)+(↑(List.length (x.kids.map Ex.av)):Int) from wrap64_id (by omega) (by omega)) hc (show IntKind.wrap .i64 (lf+1)=lf+1 from wrap64_id (by omega) (by omega)))
theorem m120es (lf n dp:Int) (es:List Ex) (hes:es.length≤1048577) (nx:List Ex):En 75 (loopOf Tryz.f120 1) ⟨[Z2p0 lf,Z2p1 n,(6,.row 312 0 (es.map Ex.av).length),Z2p2 dp,(8,.row 372 0 (nx.map Ex.av).length),(9,.int .i64 ((es.length:Nat):Int))],[Z2p5 es,Z2p7 nx]⟩ (fun e t=>e= .exit 2∧t=⟨[Z2p0 lf,Z2p1 n,(6,.row 312 0 (es.map Ex.av).length),Z2p2 dp,(8,.row 372 0 (nx.map Ex.av).length)],[Z2p5 es,Z2p7 nx]⟩):=by
 exact gE ⟨rfl,rfl⟩ 0 [.is false] [1,5,6,7,8] [(312,.keep 312 true),(372,.keep 372 true)] (aC3 (show decide ((↑es.length:Int)<(↑(es.map Ex.av).length:Int))=false from by simp) (show noIdsL (es.map Ex.av)=true from by simp) (show noIdsL (nx.map Ex.av)=true from by simp))
abbrev Z2pc:Nat×AV:=(9,.int .i64 0)
theorem l120_1 (lf n dp:Int) (es:List Ex) (hes:es.length≤1048577) (hS:∀x,x∈es→ExS x) (hn:0≤n∧n≤1048577) (hlf:0≤lf∧lf≤1048577) (hnl:n≤lf):Lo 75 (loopOf Tryz.f120 1) ⟨[Z2p0 lf,Z2p1 n,(6,.row 312 0 (es.map Ex.av).length),Z2p2 dp,(8,nV []),Z2pc],Z2p5 es::nP []⟩ .ret (Z2pj lf)∨∃nx:List Ex,n+nx.length≤lf∧(∀x,x∈nx→ExS x)∧Lo 75 (loopOf Tryz.f120 1) ⟨[Z2p0 lf,Z2p1 n,(6,.row 312 0 (es.map Ex.av).length),Z2p2 dp,(8,nV []),Z2pc],Z2p5 es::nP []⟩ (.exit 2) ⟨[Z2p0 lf,Z2p1 n,(6,.row 312 0 (es.map Ex.av).length),Z2p2 dp,(8,nV nx)],Z2p5 es::nP nx⟩:=by
 have T:∀(i:Nat) (nx:List Ex),i<es.length→(n+nx.length≤lf∧∀x,x∈nx→ExS x)→En 75 (loopOf Tryz.f120 1) ⟨[Z2p0 lf,Z2p1 n,(6,.row 312 0 (es.map Ex.av).length),Z2p2 dp,(8,nV nx),Z2p3 i],Z2p5 es::nP nx⟩ (fun e s=>(e= .ret∧s=(Z2pj lf))∨(e= .normal∧∃g:List Ex,(n+g.length≤lf∧∀x,x∈g→ExS x)∧s=⟨[Z2p0 lf,Z2p1 n,(6,.row 312 0 (es.map Ex.av).length),Z2p2 dp,(8,nV g),Z2p9 i],Z2p5 es::nP g⟩)):=by
  intro i nx hi ⟨h1,h2⟩
  have hxe:es[i]? =some es[i]:=List.getElem?_eq_getElem hi
  generalize es[i]=x at hxe
  have hSx:=hS x (List.mem_of_getElem? hxe)
  have hx:(es.map Ex.av)[0+Int.toNat (i:Int)]? =some (.agg x.cells):=by rw [Nat.zero_add,Int.toNat_natCast,List.getElem?_map,hxe,Option.map_some,Ex.av_eq]
  have hkl:(x.kids.map Ex.av).length<10000000000000:=by rw [List.length_map];exact hSx.len
  have hkk:(x.kids.map Ex.av).length=x.kids.length:=List.length_map ..
  have hall:∀y,y∈nx++x.kids→ExS y:=fun y hy=>(List.mem_append.1 hy).elim (h2 y) (hSx.kid y)
  have hnn:nx.length≤1048577:=by omega
  cases nx with
  |nil=>
   by_cases hc:lf<n+0+((x.kids.map Ex.av).length:Nat)
   ·obtain ⟨e,t,⟨rfl,rfl⟩,h⟩:=m120rz lf n dp es hes hn hlf i x hi hx hkl (decide_eq_true hc)
    exact ⟨_,_,.inl ⟨rfl,rfl⟩,h⟩
   ·have hq:=l120_2 lf n dp es hes [] i x hi hx (by simp;omega)
    have hfin:n+([]++x.kids).length≤lf:=by simp;omega
    revert hq hall hfin
    generalize ([]:List Ex)++x.kids=m
    intro hall hq hfin
    cases m with
    |nil=>
     obtain ⟨e,t,⟨rfl,rfl⟩,h⟩:=m120nzz lf n dp es hes hn hlf i x hi hx hkl (decide_eq_false hc) hq
     exact ⟨_,_,.inr ⟨rfl,[],⟨hfin,hall⟩,rfl⟩,h⟩
    |cons a r=>
     obtain ⟨e,t,⟨rfl,rfl⟩,h⟩:=m120nzs lf n dp es hes (a::r) hn hlf i x hi hx hkl (decide_eq_false hc) hq
     exact ⟨_,_,.inr ⟨rfl,a::r,⟨hfin,hall⟩,rfl⟩,h⟩
  |cons b q=>
   have hnk:((b::q).map Ex.av).length=(b::q).length:=List.length_map ..
   by_cases hc:lf<n+(((b::q).map Ex.av).length:Nat)+((x.kids.map Ex.av).length:Nat)
   ·obtain ⟨e,t,⟨rfl,rfl⟩,h⟩:=m120rs lf n dp es hes (b::q) (by omega) hn hlf i x hi hx hkl (decide_eq_true hc)
    exact ⟨_,_,.inl ⟨rfl,rfl⟩,h⟩
   ·have hq:=l120_2 lf n dp es hes (b::q) i x hi hx (by omega)
    have hfin:n+((b::q)++x.kids).length≤lf:=by rw [List.length_append];omega
    obtain ⟨e,t,⟨rfl,rfl⟩,h⟩:=m120nss lf n dp es hes (b::q) ((b::q)++x.kids) (by omega) hn hlf i x hi hx hkl (decide_eq_false hc) hq
    exact ⟨_,_,.inr ⟨rfl,(b::q)++x.kids,⟨hfin,hall⟩,rfl⟩,h⟩
 rcases inv_loop (P:=Tryz.prog) (n:=75) (c:=loopOf Tryz.f120 1) (N:=es.length) (k:=2) (γ:=List Ex) (fun i nx=>⟨[Z2p0 lf,Z2p1 n,(6,.row 312 0 (es.map Ex.av).length),Z2p2 dp,(8,nV nx),Z2p3 i],Z2p5 es::nP nx⟩) (fun nx=>⟨[Z2p0 lf,Z2p1 n,(6,.row 312 0 (es.map Ex.av).length),Z2p2 dp,(8,nV nx)],Z2p5 es::nP nx⟩) (fun s=>s=(Z2pj lf)) (fun i nx=>n+nx.length≤lf∧∀x,x∈nx→ExS x) T (fun nx _=>by
  cases nx with
  |nil=>exact m120ez lf n dp es hes
  |cons a r=>exact m120es lf n dp es hes (a::r)) [] ⟨by simpa using hnl,by simp⟩ with ⟨s,h,rfl⟩|⟨nx,⟨h1,h2⟩,h⟩
 ·exact .inl h
 ·exact .inr ⟨nx,h1,h2,h⟩
abbrev Z2pk (lf n dp:Int) (es:List Ex):St:=⟨[Z2p0 lf,Z2p1 n,(6,.row 312 0 (es.map Ex.av).length),Z2p2 dp],[Z2p5 es]⟩
theorem o120a (lf n dp:Int) (es:List Ex) (hes:(es.map Ex.av).length≤1048577) (hne:0<(es.map Ex.av).length) (hn:0≤n∧n≤1048577) (hlf:0≤lf∧lf≤1048577) (hd:0≤dp∧dp≤1048577) (hc:decide (lf<(n+((es.map Ex.av).length:Nat)))=true):En 75 (loopOf Tryz.f120 0) (Z2pk lf n dp es) (fun e t=>e= .ret∧t=(Z2pj lf)):=by
 exact gE ⟨rfl,rfl⟩ 0 [.is true,.is true] [4] [] (aC4 (show decide (0<(↑(es.map Ex.av).length:Int))=true from decide_eq_true (by omega)) (show IntKind.wrap .i64 (n+(↑(es.map Ex.av).length:Int))=n+(↑(es.map Ex.av).length:Int) from wrap64_id (by omega) (by omega)) hc (show IntKind.wrap .i64 (lf+1)=lf+1 from wrap64_id (by omega) (by omega)))
theorem o120b (lf n dp:Int) (es:List Ex) (hes:(es.map Ex.av).length≤1048577) (hne:0<(es.map Ex.av).length) (hn:0≤n∧n≤1048577) (hlf:0≤lf∧lf≤1048577) (hd:0≤dp∧dp≤1048577) (hc:decide (lf<(n+((es.map Ex.av).length:Nat)))=false) (hdp:decide (65536<dp)=true):En 75 (loopOf Tryz.f120 0) (Z2pk lf n dp es) (fun e t=>e= .ret∧t=(Z2pj lf)):=by
 exact gE ⟨rfl,rfl⟩ 0 [.is true,.is false,.is true] [4] [] (aC5 (show decide (0<(↑(es.map Ex.av).length:Int))=true from decide_eq_true (by omega)) (show IntKind.wrap .i64 (n+(↑(es.map Ex.av).length:Int))=n+(↑(es.map Ex.av).length:Int) from wrap64_id (by omega) (by omega)) hc hdp (show IntKind.wrap .i64 (lf+1)=lf+1 from wrap64_id (by omega) (by omega)))
abbrev Z2pd (n:Int) (es:List Ex):Nat×AV:=(5,.int .i64 (n+((es.map Ex.av).length:Nat)))
abbrev Z2pl (lf n dp:Int) (es:List Ex):St:=⟨[Z2p0 lf,Z2pd n es,(6,.row 312 0 (es.map Ex.av).length),Z2p2 dp,(8,.nils),Z2pc],[Z2p5 es]⟩
theorem o120c (lf n dp:Int) (es:List Ex) (hes:(es.map Ex.av).length≤1048577) (hne:0<(es.map Ex.av).length) (hn:0≤n∧n≤1048577) (hlf:0≤lf∧lf≤1048577) (hd:0≤dp∧dp≤1048577) (hc:decide (lf<(n+((es.map Ex.av).length:Nat)))=false) (hdp:decide (65536<dp)=false) (l120_1q:Lo 75 (loopOf Tryz.f120 1) (Z2pl lf n dp es) .ret (Z2pj lf)):En 75 (loopOf Tryz.f120 0) (Z2pk lf n dp es) (fun e t=>e= .ret∧t=(Z2pj lf)):=by
 have hl0:=l120_1q
 exact gE ⟨rfl,rfl⟩ 0 [.is true,.is false,.is false,.cut [1,5,6,7,8,9] [(312,.keep 312 true)],.sum .ret [Z2pb lf] []] [4] [] (aC6 (show decide (0<(↑(es.map Ex.av).length:Int))=true from decide_eq_true (by omega)) (show IntKind.wrap .i64 (n+(↑(es.map Ex.av).length:Int))=n+(↑(es.map Ex.av).length:Int) from wrap64_id (by omega) (by omega)) hc hdp (show noIdsL (es.map Ex.av)=true from by simp) hl0)
theorem o120d (lf n dp:Int) (es:List Ex) (hes:(es.map Ex.av).length≤1048577) (hne:0<(es.map Ex.av).length) (hn:0≤n∧n≤1048577) (hlf:0≤lf∧lf≤1048577) (hd:0≤dp∧dp≤1048577) (hc:decide (lf<(n+((es.map Ex.av).length:Nat)))=false) (hdp:decide (65536<dp)=false) (l120_1q:Lo 75 (loopOf Tryz.f120 1) (Z2pl lf n dp es) (.exit 2) ⟨[Z2p0 lf,Z2pd n es,(6,.row 312 0 (es.map Ex.av).length),Z2p2 dp,(8,.nils)],[Z2p5 es]⟩):EN 75 (loopOf Tryz.f120 0) (Z2pk lf n dp es) ⟨[Z2p0 lf,Z2pd n es,(6,.nils),(7,.int .i64 (dp+1))],[]⟩:=by
 have hl0:=l120_1q
 exact gE ⟨rfl,rfl⟩ 0 [.is true,.is false,.is false,.cut [1,5,6,7,8,9] [(312,.keep 312 true)],.sum (.exit 2) [Z2p0 lf,(5,.int .i64 (n+(↑(es.map Ex.av).length:Int))),(6,.row 312 0 (es.map Ex.av).length),Z2p2 dp,(8,.nils)] [Z2p5 es]] [1,5,6,7] [] (aC7 (show decide (0<(↑(es.map Ex.av).length:Int))=true from decide_eq_true (by omega)) (show IntKind.wrap .i64 (n+(↑(es.map Ex.av).length:Int))=n+(↑(es.map Ex.av).length:Int) from wrap64_id (by omega) (by omega)) hc hdp (show noIdsL (es.map Ex.av)=true from by simp) hl0 (show IntKind.wrap .i64 (dp+1)=dp+1 from wrap64_id (by omega) (by omega)))
theorem o120e (lf n dp:Int) (es:List Ex) (hes:(es.map Ex.av).length≤1048577) (hne:0<(es.map Ex.av).length) (hn:0≤n∧n≤1048577) (hlf:0≤lf∧lf≤1048577) (hd:0≤dp∧dp≤1048577) (nx:List Ex) (hc:decide (lf<(n+((es.map Ex.av).length:Nat)))=false) (hdp:decide (65536<dp)=false) (l120_1q:Lo 75 (loopOf Tryz.f120 1) (Z2pl lf n dp es) (.exit 2) ⟨[Z2p0 lf,Z2pd n es,(6,.row 312 0 (es.map Ex.av).length),Z2p2 dp,(8,.row 372 0 (nx.map Ex.av).length)],[Z2p5 es,Z2p7 nx]⟩):EN 75 (loopOf Tryz.f120 0) (Z2pk lf n dp es) ⟨[Z2p0 lf,Z2pd n es,(6,.row 312 0 (nx.map Ex.av).length),(7,.int .i64 (dp+1))],[(312,.row 6 (nx.map Ex.av))]⟩:=by
 have hl0:=l120_1q
 exact gE ⟨rfl,rfl⟩ 0 [.is true,.is false,.is false,.cut [1,5,6,7,8,9] [(312,.keep 312 true)],.sum (.exit 2) [Z2p0 lf,(5,.int .i64 (n+(↑(es.map Ex.av).length:Int))),(6,.row 312 0 (es.map Ex.av).length),Z2p2 dp,(8,.row 372 0 (nx.map Ex.av).length)] [Z2p5 es,Z2p7 nx]] [1,5,6,7] [(372,.keep 312 true)] (aC8 (show decide (0<(↑(es.map Ex.av).length:Int))=true from decide_eq_true (by omega)) (show IntKind.wrap .i64 (n+(↑(es.map Ex.av).length:Int))=n+(↑(es.map Ex.av).length:Int) from wrap64_id (by omega) (by omega)) hc hdp (show noIdsL (es.map Ex.av)=true from by simp) hl0 (show IntKind.wrap .i64 (dp+1)=dp+1 from wrap64_id (by omega) (by omega)) (show noIdsL (nx.map Ex.av)=true from by simp))
theorem o120z (lf n dp:Int):En 75 (loopOf Tryz.f120 0) ⟨[Z2p0 lf,Z2p1 n,(6,.nils),Z2p2 dp],[]⟩ (fun e t=>e= .exit 0∧t=⟨[Z2p1 n],[]⟩):=by
 exact gE ⟨rfl,rfl⟩ 0 [.is false] [5] [] (aC1 (show false=false from rfl))
def lV:List Ex→AV
 |[]=> .nils
 |x::r=> .row 312 0 ((x::r).map Ex.av).length
def lP:List Ex→List (Nat×Ob)
 |[]=>[]
 |x::r=>[(312,.row 6 ((x::r).map Ex.av))]
theorem l120_0 (lf:Int) (hlf:0≤lf∧lf≤1048577):∀(m:Nat) (n dp:Int) (es:List Ex),lf-n<m→0≤n→n≤lf→0≤dp→dp≤n→(∀x,x∈es→ExS x)→es.length≤1048577→
  Lo 75 (loopOf Tryz.f120 0) ⟨[(1,.int .i64 lf),(5,.int .i64 n),(6,lV es),(7,.int .i64 dp)],lP es⟩ .ret ⟨[(4,.int .i64 (lf+1))],[]⟩∨∃n':Int,0≤n'∧n'≤lf∧Lo 75 (loopOf Tryz.f120 0) ⟨[(1,.int .i64 lf),(5,.int .i64 n),(6,lV es),(7,.int .i64 dp)],lP es⟩ (.exit 0) ⟨[(5,.int .i64 n')],[]⟩
 |0,n,dp,es,h1,h2,h3,_,_,_,_=>by omega
 |m+1,n,dp,es,h1,h2,h3,h4,h5,hS,hl=>by
  cases es with
  |nil=>
   obtain ⟨e,t,⟨rfl,rfl⟩,h⟩:=o120z lf n dp
   exact .inr ⟨n,h2,h3,.leave h (by simp)⟩
  |cons a q=>
   have hes:((a::q).map Ex.av).length≤1048577:=by rw [List.length_map];exact hl
   have hne:0<((a::q).map Ex.av).length:=by simp
   have hlm:((a::q).map Ex.av).length=(a::q).length:=List.length_map ..
   by_cases hc:lf<n+(((a::q).map Ex.av).length:Nat)
   ·obtain ⟨e,t,⟨rfl,rfl⟩,h⟩:=o120a lf n dp (a::q) hes hne ⟨h2,by omega⟩ hlf ⟨h4,by omega⟩ (decide_eq_true hc)
    exact .inl (.leave h (by simp))
   ·by_cases hdp:(65536:Int)<dp
    ·obtain ⟨e,t,⟨rfl,rfl⟩,h⟩:=o120b lf n dp (a::q) hes hne ⟨h2,by omega⟩ hlf ⟨h4,by omega⟩ (decide_eq_false hc) (decide_eq_true hdp)
     exact .inl (.leave h (by simp))
    ·rcases l120_1 lf (n+(((a::q).map Ex.av).length:Nat)) dp (a::q) hl hS ⟨by omega,by omega⟩ hlf (by omega) with hM|⟨nx,g1,g2,hM⟩
     ·obtain ⟨e,t,⟨rfl,rfl⟩,h⟩:=o120c lf n dp (a::q) hes hne ⟨h2,by omega⟩ hlf ⟨h4,by omega⟩ (decide_eq_false hc) (decide_eq_false hdp) hM
      exact .inl (.leave h (by simp))
     ·have turn:Rz 75 (loopOf Tryz.f120 0) ⟨[(1,.int .i64 lf),(5,.int .i64 n),(6,lV (a::q)),(7,.int .i64 dp)],lP (a::q)⟩ .normal ⟨[(1,.int .i64 lf),(5,.int .i64 (n+(((a::q).map Ex.av).length:Nat))),(6,lV nx),(7,.int .i64 (dp+1))],lP nx⟩:=by
       cases nx with
       |nil=>
        obtain ⟨e,t,⟨rfl,rfl⟩,h⟩:=o120d lf n dp (a::q) hes hne ⟨h2,by omega⟩ hlf ⟨h4,by omega⟩ (decide_eq_false hc) (decide_eq_false hdp) hM
        exact h
       |cons b r=>
        obtain ⟨e,t,⟨rfl,rfl⟩,h⟩:=o120e lf n dp (a::q) hes hne ⟨h2,by omega⟩ hlf ⟨h4,by omega⟩ (b::r) (decide_eq_false hc) (decide_eq_false hdp) hM
        exact h
      rcases l120_0 lf hlf m (n+(((a::q).map Ex.av).length:Nat)) (dp+1) nx (by omega) (by omega) (by omega) (by omega) (by omega) g2 (by omega) with hL|⟨n',k1,k2,hL⟩
      ·exact .inl (.turn turn hL)
      ·exact .inr ⟨n',k1,k2,.turn turn hL⟩
theorem b120r (e:Ex) (lf:Int) (l120_0q:Lo 75 (loopOf Tryz.f120 0) ⟨[(1,.int .i64 lf),(5,.int .i64 0),(6,.row 312 0 1),(7,.int .i64 0)],[(312,.row 6 [.agg e.cells])]⟩ .ret ⟨[(4,.int .i64 (lf+1))],[]⟩):En 75 (bodyOf Tryz.f120) ⟨[(0,.agg e.cells),(1,.int .i64 lf)],[]⟩ (fun e t=>e= .ret∧t=⟨[(4,.int .i64 (lf+1))],[]⟩):=by
 have hl0:=l120_0q
 exact gE ⟨rfl,rfl⟩ 300 [.cut [1,5,6,7] [(312,.keep 312 true)],.sum .ret [(4,.int .i64 (lf+1))] []] [4] [] (aC2 rT hl0)
theorem b120e (e:Ex) (lf n:Int) (l120_0q:Lo 75 (loopOf Tryz.f120 0) ⟨[(1,.int .i64 lf),(5,.int .i64 0),(6,.row 312 0 1),(7,.int .i64 0)],[(312,.row 6 [.agg e.cells])]⟩ (.exit 0) ⟨[(5,.int .i64 n)],[]⟩):En 75 (bodyOf Tryz.f120) ⟨[(0,.agg e.cells),(1,.int .i64 lf)],[]⟩ (fun e t=>e= .ret∧t=⟨[(4,.int .i64 n)],[]⟩):=by
 have hl0:=l120_0q
 exact gE ⟨rfl,rfl⟩ 300 [.cut [1,5,6,7] [(312,.keep 312 true)],.sum (.exit 0) [(5,.int .i64 n)] []] [4] [] (aC2 rT hl0)
theorem k120 (e:Ex) (lf:Int) (hlf:0≤lf∧lf≤1048577) (hS:ExS e):∃rn:Int,Sp 120 [.agg e.cells,.int .i64 lf] [] (.int .i64 rn) []∧0≤rn∧rn≤lf+1:=by
 have e0:(Ex.av e)= .agg e.cells:=Ex.av_eq e
 have hL0:=l120_0 lf hlf (lf.toNat+1) 0 0 [e] (by omega) (by omega) (by omega) (by omega) (by omega) (fun x hx=>by rw [List.mem_singleton.1 hx];exact hS) (by simp)
 have e1:lP [e]=[(312,.row 6 [.agg e.cells])]:=by rw [←e0];rfl
 rw [e1] at hL0
 rcases hL0 with hL|⟨n,h1,h2,hL⟩
 ·obtain ⟨e',t,⟨rfl,rfl⟩,h⟩:=b120r e lf hL
  exact ⟨lf+1,Spec.pure (fn:=Tryz.f120) (c:=bodyOf Tryz.f120) (by kernel_rfl) (by kernel_rfl) (by have hi:=noIds_ex e;rw [Ex.av_eq] at hi;simpa [noIdsL,noIds] using hi) h (.inr rfl) (by kernel_rfl) rfl,by omega,by omega⟩
 ·obtain ⟨e',t,⟨rfl,rfl⟩,h⟩:=b120e e lf n hL
  exact ⟨n,Spec.pure (fn:=Tryz.f120) (c:=bodyOf Tryz.f120) (by kernel_rfl) (by kernel_rfl) (by have hi:=noIds_ex e;rw [Ex.av_eq] at hi;simpa [noIdsL,noIds] using hi) h (.inr rfl) (by kernel_rfl) rfl,h1,by omega⟩
def LiS (x:Li):Prop:=ExS x.l∧ExS x.r∧x.ts.length<10000000000000
def RuS (r:Ru):Prop:=r.hd.length<10000000000000∧r.bd.length<10000000000000∧∀x,x∈r.bd→LiS x
abbrev Z2q7 (x:Li) (lf:Int):St:=⟨[(0,x.av),(1,.int .i64 lf)],[]⟩
theorem b70a (x:Li) (lf:Int) (hlf:0≤lf∧lf≤1048577) (r0:Int) (h0:0≤r0∧r0≤lf+1) (htl:(x.ts.map Tm.av).length<10000000000000) (k120p:Sp 120 [.agg x.l.cells,.int .i64 lf] [] (.int .i64 r0) []) (hc:decide (lf<(1+((x.ts.map Tm.av).length:Nat)+r0))=true):En 29 (bodyOf Tryz.f70) (Z2q7 x lf) (fun e t=>e= .ret∧t=⟨[(4,.int .i64 (lf+1))],[]⟩):=by
 exact gE ⟨rfl,rfl⟩ 0 [.call (.int .i64 r0) [] [],.is true] [4] [] (aC5 (show IntKind.wrap .i64 (1+(↑(List.length (List.map Tm.av x.3)):Int))=1+(↑(List.length (List.map Tm.av x.3)):Int) from wrap64_id (by omega) (by omega)) k120p (show IntKind.wrap .i64 (1+(↑(List.length (List.map Tm.av x.3)):Int)+r0)=1+(↑(List.length (List.map Tm.av x.3)):Int)+r0 from wrap64_id (by omega) (by omega)) hc (show IntKind.wrap .i64 (lf+1)=lf+1 from wrap64_id (by omega) (by omega)))
theorem b70b (x:Li) (lf:Int) (hlf:0≤lf∧lf≤1048577) (r0:Int) (h0:0≤r0∧r0≤lf+1) (htl:(x.ts.map Tm.av).length<10000000000000) (k120p:Sp 120 [.agg x.l.cells,.int .i64 lf] [] (.int .i64 r0) []) (hq:(1+((x.ts.map Tm.av).length:Nat)+r0)≤lf) (hc:decide (lf<(1+((x.ts.map Tm.av).length:Nat)+r0))=false) (r3:Int) (h3:0≤r3∧r3≤lf+1) (k120:Sp 120 [.agg x.r.cells,.int .i64 (lf-(1+((x.ts.map Tm.av).length:Nat)+r0))] [] (.int .i64 r3) []):En 29 (bodyOf Tryz.f70) (Z2q7 x lf) (fun e t=>e= .ret∧t=⟨[(4,.int .i64 ((1+((x.ts.map Tm.av).length:Nat)+r0)+r3))],[]⟩):=by
 exact gE ⟨rfl,rfl⟩ 0 [.call (.int .i64 r0) [] [],.is false,.call (.int .i64 r3) [] []] [4] [] (aC7 (show IntKind.wrap .i64 (1+(↑(List.length (List.map Tm.av x.3)):Int))=1+(↑(List.length (List.map Tm.av x.3)):Int) from wrap64_id (by omega) (by omega)) k120p (show IntKind.wrap .i64 (1+(↑(List.length (List.map Tm.av x.3)):Int)+r0)=1+(↑(List.length (List.map Tm.av x.3)):Int)+r0 from wrap64_id (by omega) (by omega)) hc (show IntKind.wrap .i64 (lf-(1+(↑(List.length (List.map Tm.av x.3)):Int)+r0))=lf-(1+(↑(List.length (List.map Tm.av x.3)):Int)+r0) from wrap64_id (by omega) (by omega)) k120 (show IntKind.wrap .i64 (1+(↑(List.length (List.map Tm.av x.3)):Int)+r0+r3)=1+(↑(List.length (List.map Tm.av x.3)):Int)+r0+r3 from wrap64_id (by omega) (by omega)))
theorem k70 (x:Li) (lf:Int) (hlf:0≤lf∧lf≤1048577) (hx:LiS x):∃rn:Int,Sp 70 [x.av,.int .i64 lf] [] (.int .i64 rn) []∧0≤rn∧rn≤lf+1:=by
 obtain ⟨hl,hr,ht⟩:=hx
 have htl:(x.ts.map Tm.av).length<10000000000000:=by rw [List.length_map];exact ht
 obtain ⟨r0,s0,a0,a1⟩:=k120 x.l lf hlf hl
 have fin:∀rn:Int,Rz 29 (bodyOf Tryz.f70) (Z2q7 x lf) .ret ⟨[(4,.int .i64 rn)],[]⟩→Sp 70 [x.av,.int .i64 lf] [] (.int .i64 rn) []:=fun rn h=>
  Spec.pure (fn:=Tryz.f70) (c:=bodyOf Tryz.f70) (by kernel_rfl) (by kernel_rfl) (by simp [noIdsL,noIds_li]) h (.inr rfl) (by kernel_rfl) rfl
 by_cases hc:lf<(1+((x.ts.map Tm.av).length:Nat)+r0)
 ·obtain ⟨e,t,⟨rfl,rfl⟩,h⟩:=b70a x lf hlf r0 ⟨a0,a1⟩ htl s0 (decide_eq_true hc)
  exact ⟨_,fin _ h,by omega,by omega⟩
 ·obtain ⟨r3,s3,c0,c1⟩:=k120 x.r (lf-(1+((x.ts.map Tm.av).length:Nat)+r0)) ⟨by omega,by omega⟩ hr
  obtain ⟨e,t,⟨rfl,rfl⟩,h⟩:=b70b x lf hlf r0 ⟨a0,a1⟩ htl s0 (by omega) (decide_eq_false hc) r3 ⟨c0,by omega⟩ s3
  exact ⟨_,fin _ h,by omega,by omega⟩
abbrev Z2q0:Nat×AV:=(1,.int .i64 1048576)
abbrev Z2q1 (p:ByteArray) (hd:List Ar) (bd:List Li):Nat×AV:=(2,.tptr [.str p,.seq (hd.map Ar.av) false,.seq (bd.map Li.av) false])
abbrev Z2q2 (n:Int):Nat×AV:=(5,.int .i64 n)
theorem t34 (p:ByteArray) (hd:List Ar) (bd:List Li) (n:Int) (hn:1≤n∧n≤20000000000000) (hq:n≤1048576) (hS:∀x,x∈bd→LiS x) (hll:(bd.map Li.av).length=bd.length) (hbl:(bd.map Li.av).length<10000000000000) (i:Nat) (hi:i<bd.length):En 35 (loopOf Tryz.f34 0) ⟨[Z2q0,Z2q1 p hd bd,Z2q2 n,(6,.int .i64 (i:Int))],[]⟩ (fun e t=>e= .normal∧∃m:Int,(1≤m∧m≤20000000000000)∧t=⟨[Z2q0,Z2q1 p hd bd,(5,.int .i64 m),(6,.int .i64 ((i+1:Nat):Int))],[]⟩):=by
 obtain ⟨x0,hm0,hx0⟩:=elt_of Li.av (l:=bd) (n:=(↑i:Int)) (by omega) (by omega)
 obtain ⟨r1,⟨hs2,hs2'⟩⟩:=k70 x0 (1048576-n) (by omega) (hS _ (List.mem_of_getElem? (by assumption)))
 exact ⟨Out.normal,St.mk [Z2q0,Z2q1 p hd bd,(5,.int .i64 (n+r1)),(6,.int .i64 ((i:Int)+1))] [],⟨rfl,_,by omega,rfl⟩,gA 0 [.is true,.is true,.elt (.agg x0.cells),.call (.int .i64 r1) [] []] [1,2,5,6] [] (by kernel_rfl) (aC7 (show decide ((i:Int)<(↑(bd.map Li.av).length:Int))=true from decide_eq_true (by omega)) (show decide (n≤1048576)=true from decide_eq_true (by omega)) hx0 (show IntKind.wrap .i64 (1048576-n)=1048576-n from wrap64_id (by omega) (by omega)) hs2 (show IntKind.wrap .i64 (n+r1)=n+r1 from wrap64_id (by omega) (by omega)) (show IntKind.wrap .i64 ((i:Int)+1)=(i:Int)+1 from wrap64_id (by omega) (by omega)))⟩
theorem e34a (p:ByteArray) (hd:List Ar) (bd:List Li) (n:Int) (hn:1≤n∧n≤20000000000000):En 35 (loopOf Tryz.f34 0) ⟨[Z2q0,Z2q1 p hd bd,Z2q2 n,(6,.int .i64 ((bd.length:Nat):Int))],[]⟩ (fun e t=>e= .exit 0∧t=⟨[Z2q2 n],[]⟩):=by
 exact gE ⟨rfl,rfl⟩ 0 [.is false] [5] [] (aC1 (show decide ((↑bd.length:Int)<(↑(bd.map Li.av).length:Int))=false from by simp))
theorem e34b (p:ByteArray) (hd:List Ar) (bd:List Li) (n:Int) (hn:1≤n∧n≤20000000000000) (hq:1048576<n) (hll:(bd.map Li.av).length=bd.length) (i:Nat) (hi:i<bd.length):En 35 (loopOf Tryz.f34 0) ⟨[Z2q0,Z2q1 p hd bd,Z2q2 n,(6,.int .i64 (i:Int))],[]⟩ (fun e t=>e= .exit 0∧t=⟨[Z2q2 n],[]⟩):=by
 exact gE ⟨rfl,rfl⟩ 0 [.is true,.is false] [5] [] (aC2 (show decide ((i:Int)<(↑(bd.map Li.av).length:Int))=true from decide_eq_true (by omega)) (show decide (n≤1048576)=false from decide_eq_false (by omega)))
theorem l34_0 (p:ByteArray) (hd:List Ar) (bd:List Li) (hS:∀x,x∈bd→LiS x) (hbl:bd.length<10000000000000):∀(m i:Nat) (n:Int),i+m=bd.length→(1≤n∧n≤20000000000000)→
  ∃n':Int,(1≤n'∧n'≤20000000000000)∧Lo 35 (loopOf Tryz.f34 0) ⟨[Z2q0,Z2q1 p hd bd,Z2q2 n,(6,.int .i64 (i:Int))],[]⟩ (.exit 0) ⟨[(5,.int .i64 n')],[]⟩
 |0,i,n,him,hn=>by
  have:i=bd.length:=by omega
  subst this
  obtain ⟨e,t,⟨rfl,rfl⟩,h⟩:=e34a p hd bd n hn
  exact ⟨n,hn,.leave h (by simp)⟩
 |m+1,i,n,him,hn=>by
  have hll:(bd.map Li.av).length=bd.length:=List.length_map ..
  by_cases hq:n≤1048576
  ·obtain ⟨e,t,⟨rfl,n2,hn2,rfl⟩,h⟩:=t34 p hd bd n hn hq hS hll (by omega) i (by omega)
   obtain ⟨n',h1,hL⟩:=l34_0 p hd bd hS hbl m (i+1) n2 (by omega) hn2
   exact ⟨n',h1,.turn h hL⟩
  ·obtain ⟨e,t,⟨rfl,rfl⟩,h⟩:=e34b p hd bd n hn (by omega) hll i (by omega)
   exact ⟨n,hn,.leave h (by simp)⟩
abbrev Z2q3:Nat×AV:=(4,.int .i64 0)
theorem b34 (p:ByteArray) (hd:List Ar) (bd:List Li) (hhl:(hd.map Ar.av).length<10000000000000) (n:Int) (l34_0q:Lo 35 (loopOf Tryz.f34 0) ⟨[Z2q0,Z2q1 p hd bd,(5,.int .i64 (1+((hd.map Ar.av).length:Nat))),(6,.int .i64 0)],[]⟩ (.exit 0) ⟨[Z2q2 n],[]⟩):En 35 (restC 1 (bodyOf Tryz.f34)) ⟨[Z2q0,Z2q1 p hd bd,Z2q3],[]⟩ (fun e t=>e= .ret∧t=⟨[(4,.int .i64 n)],[]⟩):=by
 have hl0:=l34_0q
 exact gE ⟨rfl,rfl⟩ 0 [.cut [1,2,5,6] [],.sum (.exit 0) [Z2q2 n] []] [4] [] (aC2 (show IntKind.wrap .i64 (1+(↑(hd.map Ar.av).length:Int))=1+(↑(hd.map Ar.av).length:Int) from wrap64_id (by omega) (by omega)) hl0)
theorem w34 (p:ByteArray) (hd:List Ar) (bd:List Li):EN 35 (partC 0 (bodyOf Tryz.f34)) ⟨[(0,.agg [.str p,.seq (hd.map Ar.av) false,.seq (bd.map Li.av) false]),Z2q0],[]⟩ ⟨[Z2q0,Z2q1 p hd bd,Z2q3],[]⟩:=by
 exact gE ⟨rfl,rfl⟩ 0 [] [1,2,4] [(2,.freeze)] (aC1 rT)
theorem k34 (p:ByteArray) (hd:List Ar) (bd:List Li) (hr:RuS ⟨p,hd,bd⟩):∃rn:Int,Sp 34 [.agg [.str p,.seq (hd.map Ar.av) false,.seq (bd.map Li.av) false],.int .i64 1048576] [] (.int .i64 rn) []∧1≤rn∧rn≤20000000000000:=by
 obtain ⟨h1,h2,h3⟩:=hr
 simp only at h1 h2 h3
 have hhl:(hd.map Ar.av).length<10000000000000:=by rw [List.length_map];exact h1
 obtain ⟨n,hn,hL⟩:=l34_0 p hd bd h3 h2 bd.length 0 (1+((hd.map Ar.av).length:Nat)) (by omega) ⟨by omega,by omega⟩
 obtain ⟨e,t,⟨rfl,rfl⟩,r0⟩:=w34 p hd bd
 obtain ⟨e,t,⟨rfl,rfl⟩,h⟩:=b34 p hd bd hhl n hL
 exact ⟨n,Spec.pure (fn:=Tryz.f34) (c:=bodyOf Tryz.f34) (by kernel_rfl) (by kernel_rfl) (by simp [noIdsL,noIds]) (Runs.nth 0 (by kernel_rfl) r0 h) (.inr rfl) (by kernel_rfl) rfl,hn.1,hn.2⟩
abbrev Z2q4 (rules:List Ru):Nat×AV:=(0,.seq (rules.map Ru.av) false)
abbrev Z2q5:Nat×AV:=(2,.bool true)
abbrev Z2q8:St:=⟨[Z2q5],[]⟩
theorem t43 (rules:List Ru) (n:Int) (hn:0≤n∧n≤1048576) (hS:∀r,r∈rules→RuS r) (hll:(rules.map Ru.av).length=rules.length) (i:Nat) (hi:i<rules.length) (hsm:rules.length<10000000000000):En 20 (loopOf Tryz.f43 0) ⟨[Z2q4 rules,(3,.int .i64 n),(4,.int .i64 (i:Int))],[]⟩ (fun e t=>(e= .ret∧t=Z2q8)∨(e= .normal∧∃m:Int,(n+1≤m∧m≤1048576)∧t=⟨[Z2q4 rules,(3,.int .i64 m),(4,.int .i64 ((i+1:Nat):Int))],[]⟩)):=by
 obtain ⟨x0,hm0,hx0⟩:=elt_of Ru.av (l:=rules) (n:=(↑i:Int)) (by omega) (by omega)
 obtain ⟨r1,⟨hs2,hs2'⟩⟩:=k34 x0.1 x0.2 x0.3 (hS _ (List.mem_of_getElem? (by assumption)))
 rcases bft (decide (1048576<n+r1)) with h3|h3
 ·exact gE (.inl ⟨rfl,rfl⟩) 0 [.is true,.elt (.agg [.str x0.1,.seq (List.map Ar.av x0.2) false,.seq (List.map Li.av x0.3) false]),.call (.int .i64 r1) [] [],.is true] [2] [] (aC5 (show decide ((i:Int)<(↑(rules.map Ru.av).length:Int))=true from decide_eq_true (by omega)) hx0 hs2 (show IntKind.wrap .i64 (n+r1)=n+r1 from wrap64_id (by omega) (by omega)) h3)
 ·exact ⟨Out.normal,St.mk [Z2q4 rules,(3,.int .i64 (n+r1)),(4,.int .i64 ((i:Int)+1))] [],.inr ⟨rfl,_,by first|omega|(simp at*;omega),rfl⟩,gA 0 [.is true,.elt (.agg [.str x0.1,.seq (List.map Ar.av x0.2) false,.seq (List.map Li.av x0.3) false]),.call (.int .i64 r1) [] [],.is false] [0,3,4] [] (by kernel_rfl) (aC6 (show decide ((i:Int)<(↑(rules.map Ru.av).length:Int))=true from decide_eq_true (by omega)) hx0 hs2 (show IntKind.wrap .i64 (n+r1)=n+r1 from wrap64_id (by omega) (by omega)) h3 (show IntKind.wrap .i64 ((i:Int)+1)=(i:Int)+1 from wrap64_id (by omega) (by omega)))⟩
theorem e43 (rules:List Ru) (n:Int):En 20 (loopOf Tryz.f43 0) ⟨[Z2q4 rules,(3,.int .i64 n),(4,.int .i64 ((rules.length:Nat):Int))],[]⟩ (fun e t=>e= .exit 0∧t=⟨[],[]⟩):=by
 exact gE ⟨rfl,rfl⟩ 0 [.is false] [] [] (aC1 (show decide ((↑rules.length:Int)<(↑(rules.map Ru.av).length:Int))=false from by simp))
abbrev Z2q6:Nat×AV:=(3,.int .i64 0)
abbrev Z2q9 (rules:List Ru):St:=⟨[Z2q4 rules,Z2q6,Z2q3],[]⟩
theorem l43_0 (rules:List Ru) (hS:∀r,r∈rules→RuS r) (hsm:rules.length<10000000000000):
  Lo 20 (loopOf Tryz.f43 0) (Z2q9 rules) .ret Z2q8∨(rules.length≤1048576∧Lo 20 (loopOf Tryz.f43 0) (Z2q9 rules) (.exit 0) ⟨[],[]⟩):=by
 rcases inv_loop (P:=Tryz.prog) (n:=20) (c:=loopOf Tryz.f43 0) (N:=rules.length) (k:=0) (γ:=Int) (fun i n=>⟨[Z2q4 rules,(3,.int .i64 n),(4,.int .i64 (i:Int))],[]⟩) (fun _=>⟨[],[]⟩) (fun s=>s=Z2q8) (fun i n=>(i:Int)≤n∧n≤1048576) (fun i n hi hn=>by
  obtain ⟨e,t,⟨rfl,rfl⟩|⟨rfl,m,hm,rfl⟩,h⟩:=t43 rules n ⟨by omega,hn.2⟩ hS (List.length_map ..) i hi hsm
  ·exact ⟨_,_,.inl ⟨rfl,rfl⟩,h⟩
  ·exact ⟨_,_,.inr ⟨rfl,m,⟨by omega,hm.2⟩,rfl⟩,h⟩) (fun n _=>e43 rules n) 0 (by simp) with ⟨s,h,rfl⟩|⟨n,hn,h⟩
 ·exact .inl h
 ·exact .inr ⟨by omega,h⟩
theorem b43r (rules:List Ru) (l43_0q:Lo 20 (loopOf Tryz.f43 0) (Z2q9 rules) .ret Z2q8):En 20 (bodyOf Tryz.f43) ⟨[Z2q4 rules],[]⟩ (fun e t=>e= .ret∧t=Z2q8):=by
 have hl0:=l43_0q
 exact gE ⟨rfl,rfl⟩ 0 [.cut [0,3,4] [],.sum .ret [Z2q5] []] [2] [] (aC1 hl0)
theorem b43e (rules:List Ru) (l43_0q:Lo 20 (loopOf Tryz.f43 0) (Z2q9 rules) (.exit 0) ⟨[],[]⟩):En 20 (bodyOf Tryz.f43) ⟨[Z2q4 rules],[]⟩ (fun e t=>e= .ret∧t=⟨[(2,.bool false)],[]⟩):=by
 have hl0:=l43_0q
 exact gE ⟨rfl,rfl⟩ 0 [.cut [0,3,4] [],.sum (.exit 0) [] []] [2] [] (aC1 hl0)
theorem k43 (rules:List Ru) (hS:∀r,r∈rules→RuS r) (hsm:rules.length<10000000000000):∃rb:Bool,Sp 43 [.seq (rules.map Ru.av) false] [] (.bool rb) []∧(rb=false→rules.length≤1048576):=by
 rcases l43_0 rules hS hsm with hL|⟨h1,hL⟩
 ·obtain ⟨e,t,⟨rfl,rfl⟩,h⟩:=b43r rules hL
  exact ⟨true,Spec.pure (fn:=Tryz.f43) (c:=bodyOf Tryz.f43) (by kernel_rfl) (by kernel_rfl) rfl h (.inr rfl) (by kernel_rfl) rfl,fun h=>by cases h⟩
 ·obtain ⟨e,t,⟨rfl,rfl⟩,h⟩:=b43e rules hL
  exact ⟨false,Spec.pure (fn:=Tryz.f43) (c:=bodyOf Tryz.f43) (by kernel_rfl) (by kernel_rfl) rfl h (.inr rfl) (by kernel_rfl) rfl,fun _=>h1⟩
end Go.Ped
namespace Go.Ped
open Go.RowKit Go.Proofs Go.WideShapes Go.Deep Go.ChangeShapes
section
section
variable {S:Blk} {β:Beta} {w:World}
theorem Each.app {xs ys:List Value} {us vs:List AV} (h1:Each S β w xs us) (h2:Each S β w ys vs):Each S β w (xs++ys) (us++vs):=by
 refine ⟨by rw [List.length_append,List.length_append,h1.1,h2.1],fun i v x hv hx=> ?_⟩
 by_cases hi:i<xs.length
 ·rw [List.getElem?_append_left hi] at hv
  rw [List.getElem?_append_left (by rw [←h1.1];exact hi)] at hx
  exact h1.2 i v x hv hx
 ·rw [List.getElem?_append_right (by omega)] at hv
  rw [List.getElem?_append_right (by rw [←h1.1];omega),←h1.1] at hx
  exact h2.2 _ v x hv hx
theorem Each.cat {cs:List Value} {A B:List AV} (o a:Nat) (h1:Each S β w (List.take a (List.drop o cs)) A) (h2:Each S β w (List.drop (o+a) cs) B):Each S β w (List.drop o cs) (A++B):=by
 have h:=h1.app h2
 rw [←List.drop_drop,List.take_append_drop] at h
 exact h
theorem Each.last {cs:List Value} {A:List AV} (o a:Nat) (h:Each S β w (List.take a (List.drop o cs)) A) (hl:cs.length≤o+a):Each S β w (List.drop o cs) A:=by
 rw [List.take_of_length_le (by rw [List.length_drop];omega)] at h
 exact h
end
def Fit {H:Type} (P:Program) (t:TypeId) (d:DataW H):Prop:=(d.weights P t).all (· ≤reachBytes)=true
section
variable {H:Type} {P:Program}
theorem Fit.field {t:TypeId} {fs:Array Field} {parts:List (DataW H)} (j:Nat) {f:Field} {d:DataW H} (ht:P.underlying t=some (.struct fs)) (h:Fit P t (.agg parts)) (hf:fs[j]? =some f) (hd:parts[j]? =some d):Fit P f.type d:=by
 refine List.all_eq_true.2 fun x hx=> ?_
 unfold Fit at h
 simp only [DataW.weights,ht] at h
 refine List.all_eq_true.1 h x (DataW.weights_mem_each (j:=j) (t:=f.type) (d:=d) ?_ hd x hx)
 rw [List.getElem?_map,Array.getElem?_toList,hf]
 rfl
theorem mem_weightsAll {e:TypeId} {d:DataW H} {n:Nat} (hn:n∈d.weights P e):∀{l:List (DataW H)},d∈l→n∈DataW.weightsAll P e l
 |x::r,hd=>by
  rw [DataW.weightsAll,List.mem_append]
  rcases List.mem_cons.1 hd with rfl|h
  ·exact .inl hn
  ·exact .inr (mem_weightsAll hn h)
theorem Fit.elem {t e:TypeId} {elems spare:List (DataW H)} {d:DataW H} (ht:P.underlying t=some (.slice e)) (h:Fit P t (.slice elems spare)) (hd:d∈elems):Fit P e d:=by
 refine List.all_eq_true.2 fun x hx=> ?_
 unfold Fit at h
 simp only [DataW.weights,ht] at h
 exact List.all_eq_true.1 h x (List.mem_cons.2 (.inr (List.mem_append.2 (.inl (mem_weightsAll hx hd)))))
theorem Fit.len {t e:TypeId} {elems spare:List (DataW H)} (ht:P.underlying t=some (.slice e)) (h:Fit P t (.slice elems spare)):elems.length*P.bytesOf e≤reachBytes:=by
 unfold Fit at h
 simp only [DataW.weights,ht,List.all_cons,Bool.and_eq_true,decide_eq_true_eq] at h
 exact Nat.le_trans (Nat.mul_le_mul_right _ (Nat.le_add_right _ _)) h.1
end
section
variable {H:Type} {enc:TypeId×Value→H} {P:Program} {w:World} {base:Nat} {sp:Nat→Bool} {held:Bool}
theorem V_sliceW {X:Type} [Inhabited X] (f:X→AV) (Good:X→Prop) {t e:TypeId} {size fuel:Nat} {cs:List Value} {x:DataW H×List MemPlace} (ht:P.underlying t=some (.slice e)) (hc:P.cellsOf e=size) (hpos:0<size)
  (hfit:Fit P t x.1)
  (helem:∀(n:Nat) (cs:List Value) (y:DataW H×List MemPlace),DataW.trod enc P w base sp held n e cs=some y→Fit P e y.1→SizeOf.sizeOf y.1<SizeOf.sizeOf x.1→∃q:X,Each (allB w) noB w cs (f q).cells∧(f q).cells.length=size∧Good q)
  (h:DataW.trod enc P w base sp held fuel t cs=some x):
  ∃(v:Value) (l:List X),cs=[v]∧V (allB w) noB w v (.seq (l.map f) false)∧(∀q,q∈l→Good q)∧l.length*P.bytesOf e≤reachBytes:=by
 rcases open_slice ht h with ⟨rfl,rfl⟩|⟨a,len,cap,m,n,D,Pl,rfl,hb,hl,hm,hmm,rfl,hx⟩
 ·exact ⟨_,[],rfl,.seq none 0 0 0 0 [] false (fun _ _=>undef) (by simp) (by simp [maxLen]) (fun h=>by cases h) (fun h=>absurd rfl h) (by simp) (by simp) (by simp),by simp,by simp⟩
 ·have hlm:len≤m:=by rw [hmm];split<;>omega
  have hDm:∀i,i<len→D i∈(List.range len).map D:=fun i hi=>List.mem_map.2 ⟨i,List.mem_range.2 hi,rfl⟩
  have hDs:∀i,i<len→SizeOf.sizeOf (D i)<SizeOf.sizeOf (DataW.slice ((List.range len).map D) ((List.range (m-len)).map fun j=>D (len+j))):=fun i hi=>by
   have:=List.sizeOf_lt_of_mem (hDm i hi)
   rw [DataW.slice.sizeOf_spec]
   omega
  obtain ⟨C,hC⟩:=choose_lt (α:=List Value) (n:=len) (p:=fun i cs'=>w.cells? base (a.add (i*P.cellsOf e)) (P.cellsOf e)=some cs'∧∃y,DataW.trod enc P w base sp held n e cs'=some y∧y.1=D i) (fun i hi=>by
   obtain ⟨cs',h1,h2⟩:=hx i (by omega)
   exact ⟨cs',h1,_,h2,rfl⟩)
  obtain ⟨Q,hQ⟩:=choose_lt (α:=X) (n:=len) (p:=fun i q=>Each (allB w) noB w (C i) (f q).cells∧(f q).cells.length=size∧Good q) (fun i hi=>by
   obtain ⟨_,y,hy,hyD⟩:=hC i hi
   exact helem n _ y hy (by rw [hyD];exact hfit.elem ht (hDm i hi)) (by rw [hyD];exact hDs i hi))
  have raw:∀i j,i<len→j<size→∃u,(C i)[j]? =some u∧w.cell? (a.add (i*size+j))=some u:=by
   intro i j hi hj
   obtain ⟨h1,_⟩:=hC i hi
   obtain ⟨_,h2,h3⟩:=World.cells?_some h1
   rw [hc] at h2 h3
   have h4:=h3 j hj
   have hlt:j<(C i).length:=by omega
   refine ⟨(C i)[j],List.getElem?_eq_getElem hlt,?_⟩
   rw [List.getElem?_eq_getElem hlt,add_add] at h4
   exact h4
  have hspot:0<len→a.spot=none:=by
   intro h0
   obtain ⟨u,_,h2⟩:=raw 0 0 h0 hpos
   have:=World.cell?_spot h2
   simpa [Addr.add] using this
  have hcell:∀i j,i<len→j<size→∃u,(C i)[j]? =some u∧w.cell? ⟨a.block,a.off+i*size+j,none⟩=some u:=by
   intro i j hi hj
   obtain ⟨u,h1,h2⟩:=raw i j hi hj
   have hsp:=hspot (by omega)
   refine ⟨u,h1,?_⟩
   obtain ⟨b,o,s⟩:=a
   simp only at hsp
   subst hsp
   rw [Addr.add_lit,←Nat.add_assoc] at h2
   exact h2
  refine ⟨_,(List.range len).map Q,rfl,?_,fun q hq=> ?_,?_⟩
  ·have hlen:((List.range len).map Q).length=len:=by simp
   have get:∀{i:Nat} {e':AV},(((List.range len).map Q).map f)[i]? =some e'→i<len∧e'=f (Q i):=by
    intro i e' he
    rw [List.getElem?_map,List.getElem?_map] at he
    have hi:i<len:=by
     apply Nat.lt_of_not_le
     intro h
     rw [List.getElem?_eq_none (by simpa using h)] at he
     cases he
    rw [List.getElem?_range hi] at he
    simp only [Option.map_some] at he
    injection he with he
    exact ⟨hi,he.symm⟩
   have hV:=V.seq (S:=allB w) (β:=noB) (w:=w) (some a) cap size a.block a.off (((List.range len).map Q).map f) false (fun i j=>(C i).getD j undef) (by simpa using hl) hm (fun h=>by cases h)
    (fun hne=>by
     have h0:0<len:=by
      apply Nat.pos_of_ne_zero
      rintro rfl
      exact hne rfl
     obtain ⟨u,_,h2⟩:=hcell 0 0 h0 hpos
     have h3:=hspot h0
     have hlt:=cell_lt h2
     obtain ⟨b,o,s⟩:=a
     simp only at h3
     subst h3
     exact ⟨rfl,hlt⟩)
    (fun i e' he=>by
     obtain ⟨hi,rfl⟩:=get he
     exact (hQ i hi).2.1)
    (fun i j e' c he hcj=>by
     obtain ⟨hi,rfl⟩:=get he
     have hj:j<size:=by rw [←(hQ i hi).2.1];exact (List.getElem?_eq_some_iff.1 hcj).1
     obtain ⟨u,h1,h2⟩:=hcell i j hi hj
     rw [List.getD_eq_getElem?_getD,h1]
     exact h2)
    (fun i j e' c he hcj=>by
     obtain ⟨hi,rfl⟩:=get he
     have hj:j<size:=by rw [←(hQ i hi).2.1];exact (List.getElem?_eq_some_iff.1 hcj).1
     obtain ⟨u,h1,_⟩:=hcell i j hi hj
     rw [List.getD_eq_getElem?_getD,h1]
     exact (hQ i hi).1.2 j u c h1 hcj)
   simpa using hV
  ·obtain ⟨i,hi,rfl⟩:=List.mem_map.1 hq
   exact (hQ i (List.mem_range.1 hi)).2.2
  ·have:=hfit.len ht
   simpa using this
theorem E_int {k:IntKind} {t:TypeId} {fuel:Nat} {cs:List Value} {x:DataW H×List MemPlace} (ht:P.underlying t=some (.int k)) (h:DataW.trod enc P w base sp held fuel t cs=some x):∃n:Int,Each (allB w) noB w cs [.int k n]:=by
 obtain ⟨n,rfl,_⟩:=DataW.trod_int ht h
 exact ⟨n,Each.one1 (.int _ _)⟩
theorem E_text {t:TypeId} {fuel:Nat} {cs:List Value} {x:DataW H×List MemPlace} (ht:P.underlying t=some .string) (h:DataW.trod enc P w base sp held fuel t cs=some x):∃s:ByteArray,Each (allB w) noB w cs [.str s]:=by
 obtain ⟨s,rfl,_⟩:=E_str ht h
 exact ⟨s,Each.one1 (.str s)⟩
end
section
variable {H:Type} {enc:TypeId×Value→H} {w:World} {base:Nat} {sp:Nat→Bool} {held:Bool}
theorem cells22:Tryz.prog.cellsOf 22=1:=by kernel_rfl
theorem cells9:Tryz.prog.cellsOf 9=1:=by kernel_rfl
theorem cells24:Tryz.prog.cellsOf 24=2:=by kernel_rfl
theorem cells37:Tryz.prog.cellsOf 37=4:=by kernel_rfl
theorem cells35:Tryz.prog.cellsOf 35=3:=by kernel_rfl
theorem cells40:Tryz.prog.cellsOf 40=6:=by kernel_rfl
theorem cells42:Tryz.prog.cellsOf 42=16:=by kernel_rfl
theorem cells66:Tryz.prog.cellsOf 66=3:=by kernel_rfl
theorem cells105:Tryz.prog.cellsOf 105=5:=by kernel_rfl
theorem bytes37:Tryz.prog.bytesOf 37=48:=by kernel_rfl
theorem bytes40:Tryz.prog.bytesOf 40=80:=by kernel_rfl
theorem bytes42:Tryz.prog.bytesOf 42=216:=by kernel_rfl
theorem bytes66:Tryz.prog.bytesOf 66=64:=by kernel_rfl
theorem bytes105:Tryz.prog.bytesOf 105=56:=by kernel_rfl
theorem reachV:reachBytes=140737488351232:=rfl
instance:Inhabited Tm:=⟨zTm⟩
instance:Inhabited Ar:=⟨⟨0,zTm⟩⟩
instance:Inhabited Ex:=⟨.mk 0 zTm []⟩
instance:Inhabited Li:=⟨⟨0,⟨#[]⟩,[],0,.mk 0 zTm [],.mk 0 zTm []⟩⟩
instance:Inhabited Ru:=⟨⟨⟨#[]⟩,[],[]⟩⟩
theorem readTm {n:Nat} {cs:List Value} {y:DataW H×List MemPlace} (h:DataW.trod enc Tryz.prog w base sp held n 37 cs=some y):∃q:Tm,Each (allB w) noB w cs q.av.cells:=by
 obtain ⟨xs,m,rfl,_,hlen,hxs,hf⟩:=DataW.trod_struct Tryz.underlying37 h
 rw [cells37] at hlen
 have hxs:xs.length=2:=hxs
 have f0:=hf 0 ⟨"Var",9,0,false,"","",0⟩ rfl
 have f1:=hf 1 ⟨"Val",35,1,false,"","",16⟩ rfl
 rw [List.getElem?_eq_getElem (by omega)] at f0 f1
 obtain ⟨v,e0⟩:=E_text Tryz.underlying9 f0
 obtain ⟨ys,m',_,_,_,hys,hg⟩:=DataW.trod_struct Tryz.underlying35 f1
 have hys:ys.length=3:=hys
 have g0:=hg 0 ⟨"Kind",33,0,false,"","",0⟩ rfl
 have g1:=hg 1 ⟨"Num",2,1,false,"","",8⟩ rfl
 have g2:=hg 2 ⟨"Text",9,2,false,"","",16⟩ rfl
 rw [List.getElem?_eq_getElem (by omega)] at g0 g1 g2
 obtain ⟨k,e1⟩:=E_int (show Tryz.prog.underlying 33=some (.int .i8) by kernel_rfl) g0
 obtain ⟨z,e2⟩:=E_int (show Tryz.prog.underlying 2=some (.int .i64) by kernel_rfl) g1
 obtain ⟨s,e3⟩:=E_text Tryz.underlying9 g2
 have c9:Tryz.prog.cellsOf 9=1:=cells9
 have c33:Tryz.prog.cellsOf 33=1:=by kernel_rfl
 have c2:Tryz.prog.cellsOf 2=1:=by kernel_rfl
 simp only [c9,c33,c2,cells35] at e0 e1 e2 e3
 refine ⟨⟨v,k,z,s⟩,Each.cat 0 1 (A:=[.str v]) (B:=[.int .i8 k,.int .i64 z,.str s]) e0 ?_⟩
 have hT:List.take 3 (List.drop 1 cs)=List.drop 1 cs:=List.take_of_length_le (by rw [List.length_drop];omega)
 rw [hT] at e1 e2 e3
 exact Each.cat (cs:=List.drop 1 cs) 0 1 (A:=[.int .i8 k]) (B:=[.int .i64 z,.str s]) e1 (Each.cat 1 1 (A:=[.int .i64 z]) (B:=[.str s]) e2 (Each.last 2 1 e3 (by rw [List.length_drop];omega)))
theorem readEx:∀(m:Nat) {n:Nat} {cs:List Value} {y:DataW H×List MemPlace},SizeOf.sizeOf y.1<m→DataW.trod enc Tryz.prog w base sp held n 40 cs=some y→Fit Tryz.prog 40 y.1→∃q:Ex,Each (allB w) noB w cs q.cells∧ExS q
 |0,_,_,_,hm,_,_=>absurd hm (Nat.not_lt_zero _)
 |m+1,n,cs,y,hm,h,hfit=>by
  obtain ⟨xs,m',rfl,rfl,hlen,hxs,hf⟩:=DataW.trod_struct Tryz.underlying40 h
  rw [cells40] at hlen
  have hxs:xs.length=3:=hxs
  have f0:=hf 0 ⟨"Op",32,0,false,"","",0⟩ rfl
  have f1:=hf 1 ⟨"Term",37,1,false,"","",8⟩ rfl
  have f2:=hf 2 ⟨"Kids",38,5,false,"","",56⟩ rfl
  rw [List.getElem?_eq_getElem (by omega)] at f0 f1 f2
  have hmem:(xs[2]'(by omega)).1∈xs.map fun x=>x.1:=List.mem_map.2 ⟨_,List.getElem_mem _,rfl⟩
  have hsz:SizeOf.sizeOf (xs[2]'(by omega)).1<m:=by
   have:=List.sizeOf_lt_of_mem hmem
   simp only [DataW.agg.sizeOf_spec] at hm
   omega
  have hf2:Fit Tryz.prog 38 (xs[2]'(by omega)).1:=hfit.field 2 Tryz.underlying40 rfl (by rw [List.getElem?_map,List.getElem?_eq_getElem (by omega)];rfl)
  obtain ⟨o,e0⟩:=E_int (show Tryz.prog.underlying 32=some (.int .i8) by kernel_rfl) f0
  obtain ⟨t,e1⟩:=readTm f1
  obtain ⟨v,l,e2,hV,hG,hl⟩:=V_sliceW Ex.av ExS Tryz.underlying38 cells40 (by omega) hf2 (fun n' cs' y' h1 h2 h3=>by
   obtain ⟨q,hq,hs⟩:=readEx m (by omega) h1 h2
   exact ⟨q,by rw [Ex.av_eq];exact hq,by rw [Ex.av_eq];rfl,hs⟩) f2
  have e2':=Each.one1 hV
  rw [←e2] at e2'
  have c32:Tryz.prog.cellsOf 32=1:=by kernel_rfl
  have c38:Tryz.prog.cellsOf 38=1:=by kernel_rfl
  simp only [c32,c38,cells37] at e0 e1 e2'
  rw [bytes40,reachV] at hl
  exact ⟨.mk o t l,Each.cat 0 1 (A:=[AV.int IntKind.i8 o]) (B:=t.av.cells++[AV.seq (l.map Ex.av) false]) e0 (Each.cat 1 4 (A:=t.av.cells) (B:=[AV.seq (l.map Ex.av) false]) e1 (Each.last 5 1 e2' (by omega))),.mk o t l (by omega) hG⟩
theorem readAt {n:Nat} {cs:List Value} {y:DataW H×List MemPlace} (h:DataW.trod enc Tryz.prog w base sp held n 24 cs=some y) (hfit:Fit Tryz.prog 24 y.1):∃(p:ByteArray) (ts:List Tm),Each (allB w) noB w cs (atC p ts)∧ts.length<10000000000000:=by
 obtain ⟨xs,m',rfl,rfl,hlen,hxs,hf⟩:=DataW.trod_struct Tryz.underlying24 h
 rw [cells24] at hlen
 have hxs:xs.length=2:=hxs
 have f0:=hf 0 ⟨"Pred",9,0,false,"","",0⟩ rfl
 have f1:=hf 1 ⟨"Args",22,1,false,"","",16⟩ rfl
 rw [List.getElem?_eq_getElem (by omega)] at f0 f1
 obtain ⟨p,e0⟩:=E_text Tryz.underlying9 f0
 have hf1:Fit Tryz.prog 22 (xs[1]'(by omega)).1:=hfit.field 1 Tryz.underlying24 rfl (by rw [List.getElem?_map,List.getElem?_eq_getElem (by omega)];rfl)
 obtain ⟨v,ts,e1,hV,_,hl⟩:=V_sliceW Tm.av (fun _=>True) Tryz.underlying22 cells37 (by omega) hf1 (fun n' cs' y' h1 _ _=>by
  obtain ⟨q,hq⟩:=readTm h1
  exact ⟨q,hq,rfl,trivial⟩) f1
 have e1':=Each.one1 hV
 rw [←e1] at e1'
 simp only [cells9,cells22] at e0 e1'
 rw [bytes37,reachV] at hl
 exact ⟨p,ts,Each.cat 0 1 (A:=[AV.str p]) (B:=[AV.seq (ts.map Tm.av) false]) e0 (Each.last 1 1 e1' (by omega)),by omega⟩
theorem readLi {n:Nat} {cs:List Value} {y:DataW H×List MemPlace} (h:DataW.trod enc Tryz.prog w base sp held n 42 cs=some y) (hfit:Fit Tryz.prog 42 y.1):∃x:Li,Each (allB w) noB w cs x.cells∧LiS x:=by
 obtain ⟨xs,m',rfl,rfl,hlen,hxs,hf⟩:=DataW.trod_struct Tryz.underlying42 h
 rw [cells42] at hlen
 have hxs:xs.length=5:=hxs
 have f0:=hf 0 ⟨"Kind",30,0,false,"","",0⟩ rfl
 have f1:=hf 1 ⟨"Atom",24,1,false,"","",8⟩ rfl
 have f2:=hf 2 ⟨"Rel",31,3,false,"","",48⟩ rfl
 have f3:=hf 3 ⟨"Left",40,4,false,"","",56⟩ rfl
 have f4:=hf 4 ⟨"Right",40,10,false,"","",136⟩ rfl
 rw [List.getElem?_eq_getElem (by omega)] at f0 f1 f2 f3 f4
 have hf1:Fit Tryz.prog 24 (xs[1]'(by omega)).1:=hfit.field 1 Tryz.underlying42 rfl (by rw [List.getElem?_map,List.getElem?_eq_getElem (by omega)];rfl)
 have hf3:Fit Tryz.prog 40 (xs[3]'(by omega)).1:=hfit.field 3 Tryz.underlying42 rfl (by rw [List.getElem?_map,List.getElem?_eq_getElem (by omega)];rfl)
 have hf4:Fit Tryz.prog 40 (xs[4]'(by omega)).1:=hfit.field 4 Tryz.underlying42 rfl (by rw [List.getElem?_map,List.getElem?_eq_getElem (by omega)];rfl)
 obtain ⟨k,e0⟩:=E_int Tryz.underlying30 f0
 obtain ⟨p,ts,e1,hts⟩:=readAt f1 hf1
 obtain ⟨rel,e2⟩:=E_int Tryz.underlying31 f2
 obtain ⟨l,e3,hl⟩:=readEx _ (Nat.lt_succ_self _) f3 hf3
 obtain ⟨r,e4,hr⟩:=readEx _ (Nat.lt_succ_self _) f4 hf4
 have c30:Tryz.prog.cellsOf 30=1:=by kernel_rfl
 have c31:Tryz.prog.cellsOf 31=1:=by kernel_rfl
 simp only [c30,c31,cells24,cells40] at e0 e1 e2 e3 e4
 exact ⟨⟨k,p,ts,rel,l,r⟩,Each.cat 0 1 (A:=[AV.int IntKind.i8 k]) (B:=atC p ts++([AV.int IntKind.i8 rel]++(l.cells++r.cells))) e0 (Each.cat 1 2 (A:=atC p ts) (B:=[AV.int IntKind.i8 rel]++(l.cells++r.cells)) e1 (Each.cat 3 1 (A:=[AV.int IntKind.i8 rel]) (B:=l.cells++r.cells) e2 (Each.cat 4 6 (A:=l.cells) (B:=r.cells) e3 (Each.last 10 6 e4 (by omega))))),hl,hr,hts⟩
theorem readAr {n:Nat} {cs:List Value} {y:DataW H×List MemPlace} (h:DataW.trod enc Tryz.prog w base sp held n 105 cs=some y):∃a:Ar,Each (allB w) noB w cs a.av.cells:=by
 obtain ⟨xs,m',rfl,rfl,hlen,hxs,hf⟩:=DataW.trod_struct Tryz.underlying105 h
 rw [cells105] at hlen
 have hxs:xs.length=2:=hxs
 have f0:=hf 0 ⟨"Agg",103,0,false,"","",0⟩ rfl
 have f1:=hf 1 ⟨"Term",37,1,false,"","",8⟩ rfl
 rw [List.getElem?_eq_getElem (by omega)] at f0 f1
 obtain ⟨g,e0⟩:=E_int (show Tryz.prog.underlying 103=some (.int .i8) by kernel_rfl) f0
 obtain ⟨t,e1⟩:=readTm f1
 have c103:Tryz.prog.cellsOf 103=1:=by kernel_rfl
 simp only [c103,cells37] at e0 e1
 exact ⟨⟨g,t⟩,Each.cat 0 1 (A:=[AV.int IntKind.i8 g]) (B:=t.av.cells) e0 (Each.last 1 4 e1 (by omega))⟩
theorem readRu {n:Nat} {cs:List Value} {y:DataW H×List MemPlace} (h:DataW.trod enc Tryz.prog w base sp held n 66 cs=some y) (hfit:Fit Tryz.prog 66 y.1):∃r:Ru,Each (allB w) noB w cs r.av.cells∧r.av.cells.length=3∧RuS r:=by
 obtain ⟨xs,m',rfl,rfl,hlen,hxs,hf⟩:=DataW.trod_struct Tryz.underlying66 h
 rw [cells66] at hlen
 have hxs:xs.length=3:=hxs
 have f0:=hf 0 ⟨"Pred",9,0,false,"","",0⟩ rfl
 have f1:=hf 1 ⟨"Head",64,1,false,"","",16⟩ rfl
 have f2:=hf 2 ⟨"Body",43,2,false,"","",40⟩ rfl
 rw [List.getElem?_eq_getElem (by omega)] at f0 f1 f2
 have hf1:Fit Tryz.prog 64 (xs[1]'(by omega)).1:=hfit.field 1 Tryz.underlying66 rfl (by rw [List.getElem?_map,List.getElem?_eq_getElem (by omega)];rfl)
 have hf2:Fit Tryz.prog 43 (xs[2]'(by omega)).1:=hfit.field 2 Tryz.underlying66 rfl (by rw [List.getElem?_map,List.getElem?_eq_getElem (by omega)];rfl)
 obtain ⟨p,e0⟩:=E_text Tryz.underlying9 f0
 obtain ⟨v1,hd,e1,hV1,_,hl1⟩:=V_sliceW Ar.av (fun _=>True) Tryz.underlying64 cells105 (by omega) hf1 (fun n' cs' y' h1 _ _=>by
  obtain ⟨q,hq⟩:=readAr h1
  exact ⟨q,hq,rfl,trivial⟩) f1
 obtain ⟨v2,bd,e2,hV2,hG,hl2⟩:=V_sliceW Li.av LiS Tryz.underlying43 cells42 (by omega) hf2 (fun n' cs' y' h1 h2 _=>by
  obtain ⟨q,hq,hs⟩:=readLi h1 h2
  exact ⟨q,hq,rfl,hs⟩) f2
 have e1':=Each.one1 hV1
 rw [←e1] at e1'
 have e2':=Each.one1 hV2
 rw [←e2] at e2'
 have c64:Tryz.prog.cellsOf 64=1:=by kernel_rfl
 have c43:Tryz.prog.cellsOf 43=1:=by kernel_rfl
 simp only [cells9,c64,c43] at e0 e1' e2'
 rw [bytes105,reachV] at hl1
 rw [bytes42,reachV] at hl2
 exact ⟨⟨p,hd,bd⟩,Each.cat 0 1 (A:=[AV.str p]) (B:=[AV.seq (hd.map Ar.av) false]++[AV.seq (bd.map Li.av) false]) e0 (Each.cat 1 1 (A:=[AV.seq (hd.map Ar.av) false]) (B:=[AV.seq (bd.map Li.av) false]) e1' (Each.last 2 1 e2' (by omega))),rfl,by show hd.length<_;omega,by show bd.length<_;omega,hG⟩
end
end
end Go.Ped
