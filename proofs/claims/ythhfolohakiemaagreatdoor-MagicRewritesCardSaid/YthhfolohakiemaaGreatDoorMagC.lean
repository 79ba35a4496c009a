/- What the one operation of the program's code gives is reckoned without addresses, and the reckoning is right. -/
import Derived.Test.YthhfolohakiemaaGreatDoorMagB
set_option linter.all false
namespace Go.Ped
open Go.RowKit
section
variable (len cap:Nat) (k k':IntKind) (l h:Int)
section
variable {P:Program} {F:Fr} {S:df} {β:bn} {hp:List (Nat×Ob)} {w:World} {a:Act} {o:Oper} {res:dT} {rd:List Nat} {sc:List cv}
theorem y7 {p:Option Addr} {cap l k:Nat} (h0:p=none→cap=0) (h:(if cap=l then p else p.map (·.add k))=none):cap-l=0:=by
 by_cases hc:cap=l
 all_goals simp_all
theorem Fk {t e:TypeId} {n:Nat} (h:mH P t=some (e,n)):P.underlying t=some (.slice e)∧cJ P e=some n:=by
 unfold mH at h
 cases hu:P.underlying t with
 |none=>grind
 |some d=>
  rw [hu] at h
  cases d<;>first
   |(cases h;done)
   |skip
  simp only at h
  obtain ⟨m,hm,hq⟩:=Option.map_eq_some_iff.1 h
  grind
theorem db {t e:TypeId} {size:Nat} (hu:P.underlying t=some (.slice e)) (hs:cJ P e=some size) (p:Option Addr) (len cap:Nat) (lo hi mx:Option Value) (l h m:Nat)
  (hb:(Instr.sliceBounds true len cap lo hi mx).run P w= .ok (l,h,m) w):
  (Instr.sliceAt t (.slice p len cap) lo hi mx).run P w= .ok (.slice (if m=l then p else p.map (·.add (l*size))) (h-l) (m-l)) w:=by
 simp_all[Instr.sliceAt,run_underlying,Instr.slice,cW]
theorem pZ (h0:0≤h) (h1:h≤cap):(Instr.sliceBounds true len cap none (some (.int k h)) none).run P w= .ok (0,h.toNat,cap) w:=by
 simp_all[Instr.sliceBounds,Instr.sliceBound,asIntOf]
theorem vD (h0:0≤l) (h1:l≤len):(Instr.sliceBounds true len cap (some (.int k l)) none none).run P w= .ok (l.toNat,len,cap) w:=by
 simp_all[Instr.sliceBounds,Instr.sliceBound,asIntOf]
theorem sD:(Instr.sliceBounds true len cap none (some (.int k 0)) (some (.int k' 0))).run P w= .ok (0,0,0) w:=by
 rfl
theorem sF (h0:0≤l) (h1:l≤h) (h2:h≤cap):(Instr.sliceBounds true len cap (some (.int k l)) (some (.int k' h)) none).run P w= .ok (l.toNat,h.toNat,cap) w:=by
 have h3:0≤h:=by omega
 have h4:l≤(h.toNat:Int):=by omega
 simp_all[Instr.sliceBounds,Instr.sliceBound,asIntOf,Int.ofNat_toNat]
theorem xJ (k'':IntKind) (l h m:Int) (h0:0≤l) (h1:l≤h) (h2:h≤m) (h3:m≤cap):(Instr.sliceBounds true len cap (some (.int k l)) (some (.int k' h)) (some (.int k'' m))).run P w= .ok (l.toNat,h.toNat,m.toNat) w:=by
 have h4:0≤h:=by omega
 have h5:l≤(h.toNat:Int):=by omega
 have h6:0≤m:=by omega
 have h7:h≤(m.toNat:Int):=by omega
 simp_all[Instr.sliceBounds,Instr.sliceBound,asIntOf,Int.ofNat_toNat]
theorem kb {t:TypeId} {x:Operand} {lo hi mx:Option Operand} {X:AV} {L H Mx:Option AV} (ho:o.op= .slice t x lo hi mx) (M:b7 F S β hp w) (hx:V S β w (a.eval x) X)
  (hL:(lo=none∧L=none)∨∃q y,lo=some q∧L=some y∧V S β w (a.eval q) y) (hH:(hi=none∧H=none)∨∃q y,hi=some q∧H=some y∧V S β w (a.eval q) y)
  (hM:(mx=none∧Mx=none)∨∃q y,mx=some q∧Mx=some y∧V S β w (a.eval q) y)
  (hr:(lN P t X L H Mx sc).bL (ae hp)=some (res,rd)) (hc:∀c,c∈res.cs→c.p):b9 P F S β hp w a o res:=by
 unfold lN at hr
 cases he:mH P t with
 |none=>rw [he] at hr;cases hr
 |some es0=>
  obtain ⟨e,size⟩:=es0
  rw [he] at hr
  simp only at hr
  obtain ⟨hu,hs⟩:=Fk he
  have none_of:∀{q:Option Operand},((q=none∧(none:Option AV)=none)∨∃q' y,q=some q'∧(none:Option AV)=some y∧V S β w (a.eval q') y)→q.map a.eval=none:=by
   simp
  have some_of:∀{q:Option Operand} {k:IntKind} {n:Int},((q=none∧some (AV.aP k n)=none)∨∃q' y,q=some q'∧some (AV.aP k n)=some y∧V S β w (a.eval q') y)→q.map a.eval=some (.int k n):=by
   rintro q k n (⟨_,h⟩|⟨q',y,rfl,h,hv⟩)
   ·grind
   ·injection h with h
    subst h
    generalize hq:a.eval q'=v at hv
    cases hv
    grind
  have exec:∀{v:Value},(Instr.sliceAt t (a.eval x) (lo.map a.eval) (hi.map a.eval) (mx.map a.eval)).run P w= .ok v w→(execOp a.eval o).run P w= .ok (.value v) w:=by
   simp_all[execOp]
  generalize hv:a.eval x=v at hx exec
  split at hr
  ·rename_i id off len k h
   simp only [Rd.bL] at hr
   cases hl:ae hp id with
   |none=>grind
   |some ob=>
    rw [hl] at hr
    have hob:=M.dg id ob hl
    cases ob with
    |aw sz es=>
     simp only [bS,Rd.bL] at hr
     injection hr with hr;injection hr with hr _;subst hr
     obtain ⟨h0,h1⟩:=hc _ (List.mem_singleton.2 rfl)
     obtain ⟨bj,q1,q2,cur,ty,r1,r2,r3,r4,r5,r6⟩:=hob
     cases hx with
     |aw _ _ _ ad bi hb hle ha=>
      rw [hb] at q1;injection q1 with q1;subst q1
      refine aV M (v:= .slice (some ad) h.toNat (bi.f5-off)) (exec ?_) rfl (.aw id off h.toNat ad bi hb (by omega) ha)
      rw [none_of hL,some_of hH,none_of hM,db hu hs _ _ _ _ _ _ _ _ _ (pZ len _ k h h0 (by omega))]
      simp [Addr.add_zero']
    |_=>cases hr
  ·rename_i id off len k l
   simp only [Rd.bL] at hr
   cases hl:ae hp id with
   |none=>grind
   |some ob=>
    rw [hl] at hr
    have hob:=M.dg id ob hl
    cases ob with
    |aw sz es=>
     simp only at hr
     by_cases hsz:sz=size
     ·rw [if_pos hsz] at hr
      simp only [bS,Rd.bL] at hr
      injection hr with hr;injection hr with hr _;subst hr
      obtain ⟨h0,h1⟩:=hc _ (List.mem_singleton.2 rfl)
      obtain ⟨bj,q1,q2,cur,ty,r1,r2,r3,r4,r5,r6⟩:=hob
      cases hx with
      |aw _ _ _ ad bi hb hle ha=>
       rw [hb] at q1;injection q1 with q1;subst q1
       have hval:(Instr.sliceAt t (.slice (some ad) len (bi.f5-off)) (lo.map a.eval) (hi.map a.eval) (mx.map a.eval)).run P w= .ok (.slice (some (if bi.f5-off=l.toNat then ad else ad.add (l.toNat*size))) (len-l.toNat) (bi.f5-(off+l.toNat))) w:=by
        rw [some_of hL,none_of hH,none_of hM,db hu hs _ _ _ _ _ _ _ _ _ (vD len _ k l h0 h1),Nat.sub_sub]
        grind
       refine aV M (exec hval) rfl (.aw id (off+l.toNat) (len-l.toNat) _ bi hb (by omega) (fun h=> ?_))
       rw [if_neg (by omega),ha (by omega),Addr.add_lit,←hsz,←q2,←Nat.add_mul]
     ·rw [if_neg hsz] at hr;cases hr
    |_=>cases hr
  ·rename_i es clip k l
   obtain ⟨e1,e2,_,e4⟩:=bQ hr
   obtain ⟨h0,h1,h2⟩:=hc _ (by rw [e4];exact List.mem_singleton.2 rfl)
   cases hx with
   |aF p cap sz b q _ _ U hcap hmax hclip hp' hsz hcc hvv hnil0=>
    have hval:(Instr.sliceAt t (.slice p es.length cap) (lo.map a.eval) (hi.map a.eval) (mx.map a.eval)).run P w= .ok (.slice (if cap=l.toNat then p else p.map (·.add (l.toNat*size))) (es.drop l.toNat).length (cap-l.toNat)) w:=by
     rw [some_of hL,none_of hH,none_of hM,db hu hs _ _ _ _ _ _ _ _ _ (vD es.length _ k l h0 h1),List.length_drop]
    refine aV M (exec hval) e2 ?_
    rw [e1]
    refine .aF _ (cap-l.toNat) size b (q+l.toNat*size) (es.drop l.toNat) false (fun i j=>U (l.toNat+i) j) (by grind) (by omega) (fun h=>by grind) (fun hne=> ?_) (fun i e he=> ?_) (fun i j e c he hc=> ?_) (fun i j e c he hc=> ?_) (y7 hnil0)
    ·have hlt:l.toNat<es.length:=by
      grind
     have hne':es≠[]:=by grind
     obtain ⟨rfl,hS⟩:=hp' hne'
     rw [if_neg (by omega)]
     grind[Addr.add_lit]
    all_goals grind
  ·rename_i es clip k h
   obtain ⟨e1,e2,_,e4⟩:=bQ hr
   obtain ⟨h0,h1⟩:=hc _ (by rw [e4];exact List.mem_singleton.2 rfl)
   cases hx with
   |aF p cap sz b q _ _ U hcap hmax hclip hp' hsz hcc hvv hnil0=>
    have hval:(Instr.sliceAt t (.slice p es.length cap) (lo.map a.eval) (hi.map a.eval) (mx.map a.eval)).run P w= .ok (.slice p (es.take h.toNat).length cap) w:=by
     rw [none_of hL,some_of hH,none_of hM,db hu hs _ _ _ _ _ _ _ _ _ (pZ es.length _ k h h0 (by omega)),List.length_take,Nat.min_eq_left (by omega)]
     simp[Addr.add_zero']
    refine aV M (exec hval) e2 ?_
    rw [e1]
    have tk:∀{i:Nat} {e:AV},(es.take h.toNat)[i]? =some e→es[i]? =some e:=by
     grind
    refine .aF p cap sz b q (es.take h.toNat) false U (by grind) hmax (fun h=>by grind) (fun hne=>hp' (by grind)) (fun i e he=>hsz i e (tk he)) (fun i j e c he hc=>hcc i j e c (tk he) hc) (fun i j e c he hc=>hvv i j e c (tk he) hc)
  ·rename_i es xs k h
   obtain ⟨e1,e2,_,e4⟩:=bQ hr
   have h0:=hc _ (by rw [e4];exact List.mem_singleton.2 rfl)
   cases hx with
   |aQ cap sz b q _ _ U hcap hmax hS hsz hcc hvv=>
    have hval:(Instr.sliceAt t (.slice (some ⟨b,q,none⟩) es.length cap) (lo.map a.eval) (hi.map a.eval) (mx.map a.eval)).run P w= .ok (.slice (some ⟨b,q,none⟩) (es++xs).length cap) w:=by
     have h0':h=((es.length+xs.length:Nat):Int):=h0
     rw [none_of hL,some_of hH,none_of hM,db hu hs _ _ _ _ _ _ _ _ _ (pZ es.length _ k h (by omega) (by omega)),List.length_append,h0',Int.toNat_natCast]
     simp [Addr.add_zero']
    refine aV M (exec hval) e2 ?_
    rw [e1]
    exact .aF _ cap sz b q (es++xs) false U (by grind) hmax (fun h=>by grind) (fun _=>⟨rfl,hS⟩) hsz hcc hvv (fun h=>by grind)
  ·rename_i es clip k k'
   obtain ⟨e1,e2,_,_⟩:=bB hr
   cases hx with
   |aF p cap sz b q _ _ U hcap hmax hclip hp' hsz hcc hvv hnil0=>
    refine aV M (v:= .slice p 0 0) (exec ?_) e2 ?_
    ·rw [none_of hL,some_of hH,some_of hM,db hu hs _ _ _ _ _ _ _ _ _ (sD _ _ k k')]
     simp
    ·rw [e1]
     exact .aF p 0 0 0 0 [] true (fun _ _=>undef) (by simp) (by simp) (fun _=>rfl) (fun h=>absurd rfl h) (by simp) (by simp) (by simp)
  ·rename_i id off len k k'
   obtain ⟨e1,e2,_,_⟩:=bB hr
   cases hx with
   |aw _ _ _ ad bi hb hle ha=>
    refine aV M (v:= .slice (some ad) 0 0) (exec ?_) e2 ?_
    ·rw [none_of hL,some_of hH,some_of hM,db hu hs _ _ _ _ _ _ _ _ _ (sD _ _ k k')]
     simp
    ·rw [e1]
     exact .aF (some ad) 0 0 0 0 [] true (fun _ _=>undef) (by simp) (by simp) (fun _=>rfl) (fun h=>absurd rfl h) (by simp) (by simp) (by simp)
  ·rename_i id off len k l k' h
   simp only [Rd.bL] at hr
   cases hl:ae hp id with
   |none=>grind
   |some ob=>
    rw [hl] at hr
    have hob:=M.dg id ob hl
    cases ob with
    |aw sz es=>
     simp only at hr
     by_cases hsz:sz=size
     ·rw [if_pos hsz] at hr
      simp only [bS,Rd.bL] at hr
      injection hr with hr;injection hr with hr _;subst hr
      obtain ⟨h0,h1,h2⟩:=hc _ (List.mem_singleton.2 rfl)
      obtain ⟨bj,q1,q2,cur,ty,r1,r2,r3,r4,r5,r6⟩:=hob
      cases hx with
      |aw _ _ _ ad bi hb hle ha=>
       rw [hb] at q1;injection q1 with q1;subst q1
       have hval:(Instr.sliceAt t (.slice (some ad) len (bi.f5-off)) (lo.map a.eval) (hi.map a.eval) (mx.map a.eval)).run P w= .ok (.slice (some (if bi.f5-off=l.toNat then ad else ad.add (l.toNat*size))) (h.toNat-l.toNat) (bi.f5-(off+l.toNat))) w:=by
        rw [some_of hL,some_of hH,none_of hM,db hu hs _ _ _ _ _ _ _ _ _ (sF len _ k k' l h h0 h1 (by omega)),Nat.sub_sub]
        grind
       refine aV M (exec hval) rfl (.aw id (off+l.toNat) (h.toNat-l.toNat) _ bi hb (by omega) (fun h=> ?_))
       rw [if_neg (by omega),ha (by omega),Addr.add_lit,←hsz,←q2,←Nat.add_mul]
     ·rw [if_neg hsz] at hr;cases hr
    |_=>cases hr
  ·rename_i id off len k l k' h k'' m
   simp only [Rd.bL] at hr
   cases hl:ae hp id with
   |none=>grind
   |some ob=>
    rw [hl] at hr
    have hob:=M.dg id ob hl
    cases ob with
    |aw sz es=>
     simp only [bS,Rd.bL] at hr
     injection hr with hr;injection hr with hr _;subst hr
     obtain ⟨h0,h1,h2,h3⟩:=hc _ (List.mem_singleton.2 rfl)
     obtain ⟨bj,q1,q2,cur,ty,r1,r2,r3,r4,r5,r6⟩:=hob
     cases hx with
     |aw _ _ _ ad bi hb hle ha=>
      rw [hb] at q1;injection q1 with q1;subst q1
      have hval:(Instr.sliceAt t (.slice (some ad) len (bi.f5-off)) (lo.map a.eval) (hi.map a.eval) (mx.map a.eval)).run P w= .ok (.slice (if m.toNat=l.toNat then some ad else (some ad).map (·.add (l.toNat*size))) (h.toNat-l.toNat) (m.toNat-l.toNat)) w:=by
       rw [some_of hL,some_of hH,some_of hM,db hu hs _ _ _ _ _ _ _ _ _ (xJ len _ k k' k'' l h m h0 h1 h2 (by omega))]
      exact aV M (exec hval) rfl (.aB _)
    |_=>cases hr
  ·rename_i es clip k l k' h
   obtain ⟨e1,e2,_,e4⟩:=bQ hr
   obtain ⟨h0,h1,h2,h3⟩:=hc _ (by rw [e4];exact List.mem_singleton.2 rfl)
   cases hx with
   |aF p cap sz b q _ _ U hcap hmax hclip hp' hsz hcc hvv hnil0=>
    have hlen:((es.take h.toNat).drop l.toNat).length=h.toNat-l.toNat:=by grind
    have hval:(Instr.sliceAt t (.slice p es.length cap) (lo.map a.eval) (hi.map a.eval) (mx.map a.eval)).run P w= .ok (.slice (if cap=l.toNat then p else p.map (·.add (l.toNat*size))) ((es.take h.toNat).drop l.toNat).length (cap-l.toNat)) w:=by
     rw [some_of hL,some_of hH,none_of hM,db hu hs _ _ _ _ _ _ _ _ _ (sF es.length _ k k' l h h0 h1 (by omega)),hlen]
    have get:∀{i:Nat} {e:AV},((es.take h.toNat).drop l.toNat)[i]? =some e→es[l.toNat+i]? =some e:=by
     grind
    refine aV M (exec hval) e2 ?_
    rw [e1]
    refine .aF _ (cap-l.toNat) size b (q+l.toNat*size) ((es.take h.toNat).drop l.toNat) false (fun i j=>U (l.toNat+i) j) (by omega) (by omega) (fun h=>by grind) (fun hne=> ?_) (fun i e he=> ?_) (fun i j e c he hc=> ?_) (fun i j e c he hc=> ?_) (y7 hnil0)
    ·have hlt:l.toNat<es.length:=by
      grind
     have hne':es≠[]:=by grind
     obtain ⟨rfl,hS⟩:=hp' hne'
     rw [if_neg (by omega)]
     grind[Addr.add_lit]
    all_goals grind
  ·cases hr
theorem xK {t:TypeId} {x:Operand} {lo hi:Option Operand} {s:ByteArray} {L H:Option AV} (ho:o.op= .slice t x lo hi none) (M:b7 F S β hp w) (hx:V S β w (a.eval x) (.J s))
  (hL:(lo=none∧L=none)∨∃q y,lo=some q∧L=some y∧V S β w (a.eval q) y) (hH:(hi=none∧H=none)∨∃q y,hi=some q∧H=some y∧V S β w (a.eval q) y)
  (hr:(Kh P t s L H sc).bL (ae hp)=some (res,rd)) (hc:∀c,c∈res.cs→c.p):b9 P F S β hp w a o res:=by
 unfold Kh at hr
 cases hu:P.underlying t with
 |none=>rw [hu] at hr;cases hr
 |some d=>
  rw [hu] at hr
  cases d<;>first
   |(cases hr;done)
   |skip
  simp only at hr
  generalize hv:a.eval x=v at hx
  cases hx
  split at hr
  ·rename_i k h
   obtain ⟨e1,e2,_,e4⟩:=bQ hr
   obtain ⟨h0,h1⟩:=hc _ (by rw [e4];exact List.mem_singleton.2 rfl)
   rcases hL with ⟨rfl,_⟩|⟨_,_,_,h,_⟩
   ·rcases hH with ⟨_,h⟩|⟨q,y,rfl,h,hq⟩
    ·grind
    ·injection h with h
     subst h
     generalize hvq:a.eval q=vq at hq
     cases hq
     refine aV M (v:= .string (s.extract 0 h.toNat)) ?_ e2 (by rw [e1];exact .J _)
     simp [execOp,ho,hv,hvq,Instr.sliceAt,run_underlying hu,Instr.slice,Instr.sliceBounds,Instr.sliceBound,asIntOf,h0,h1]
   grind
  ·rename_i k l
   obtain ⟨e1,e2,_,e4⟩:=bQ hr
   obtain ⟨h0,h1⟩:=hc _ (by rw [e4];exact List.mem_singleton.2 rfl)
   rcases hH with ⟨rfl,_⟩|⟨_,_,_,h,_⟩
   ·rcases hL with ⟨_,h⟩|⟨q,y,rfl,h,hq⟩
    ·grind
    ·injection h with h
     subst h
     generalize hvq:a.eval q=vq at hq
     cases hq
     refine aV M (v:= .string (s.extract l.toNat s.size)) ?_ e2 (by rw [e1];exact .J _)
     simp [execOp,ho,hv,hvq,Instr.sliceAt,run_underlying hu,Instr.slice,Instr.sliceBounds,Instr.sliceBound,asIntOf,h0,h1]
   grind
  ·rename_i k l k' h
   obtain ⟨e1,e2,_,e4⟩:=bQ hr
   obtain ⟨h0,h1,h2⟩:=hc _ (by rw [e4];exact List.mem_singleton.2 rfl)
   rcases hL with ⟨_,h'⟩|⟨q,y,rfl,h',hq⟩
   ·grind
   ·injection h' with h';subst h'
    rcases hH with ⟨_,h''⟩|⟨q2,y2,rfl,h'',hq2⟩
    ·grind
    ·injection h'' with h'';subst h''
     generalize hvq:a.eval q=vq at hq
     generalize hvq2:a.eval q2=vq2 at hq2
     cases hq;cases hq2
     refine aV M (v:= .string (s.extract l.toNat h.toNat)) ?_ e2 (by rw [e1];exact .J _)
     have h3:0≤h:=by omega
     have h4:l≤(h.toNat:Int):=by omega
     simp [execOp,ho,hv,hvq,hvq2,Instr.sliceAt,run_underlying hu,Instr.slice,Instr.sliceBounds,Instr.sliceBound,asIntOf,h0,h2,h3,h4,-Int.ofNat_toNat]
  ·cases hr
end
end
section
section
variable {P:Program} {F:Fr} {S:df} {β:bn} {hp:List (Nat×Ob)} {w:World} {a:Act} {o:Oper} {res:dT} {rd:List Nat} {sc:List cv}
theorem vF (off:Nat):∀(l:List Value) (k:Nat) (cells:Array Value),off+k+l.length≤cells.size→
  ((l.zipIdx k).foldl (fun cs (x:Value×Nat)=>cs.setIfInBounds (off+x.2) x.1) cells).toList=cells.toList.take (off+k)++l++cells.toList.drop (off+k+l.length)
 |[],k,cells,h=>by simp
 |v::l,k,cells,h=>by
  simp only [List.length_cons] at h
  rw [List.zipIdx_cons,List.foldl_cons,vF off l (k+1) _ (by grind)]
  apply List.ext_getElem?
  intro m
  have h1:off+(k+1)+l.length≤(cells.setIfInBounds (off+k) v).toList.length:=by grind
  have h2:off+k+(v::l).length≤cells.toList.length:=by omega
  rw [gF _ _ _ _ h1,gF _ _ _ _ h2]
  grind
def vE (S:df) (β:bn) (w:World):List (Nat×Value)→List (Nat×AV)→Prop
 |[],[]=>True
 |(i,v)::r,(j,x)::s=>i=j∧V S β w v x∧vE S β w r s
 |_,_=>False
theorem iY (place:Nat→Option (Nat×Nat)):∀(ps:List (Nat×Value)) (qs:List (Nat×AV)) (cells:Array Value) (cs out:List AV),vE S β w ps qs→bY S β w cells.toList cs→jX place cs qs=some out→
  ∃out',Instr.fill place cells ps=some out'∧bY S β w out'.toList out
 |[],[],cells,cs,out,_,hE,h=>by
  simp only [jX] at h
  injection h with h
  subst h
  exact ⟨cells,rfl,hE⟩
 |(i,v)::ps,(j,x)::qs,cells,cs,out,hP,hE,h=>by
  obtain ⟨rfl,hv,hP⟩:=hP
  simp only [jX] at h
  cases hp:place i with
  |none=>grind
  |some y=>
   obtain ⟨off,size⟩:=y
   rw [hp] at h
   simp only at h
   by_cases hc:cx x=true∨x.ac.length≠size∨off+x.ac.length>cs.length
   ·grind
   ·rw [if_neg hc] at h
    have hx:x≠ .aB:=by rintro rfl;exact hc (.inl rfl)
    have h1:x.ac.length=size:=by omega
    have h2:off+x.ac.length≤cs.length:=by omega
    have hEx:=nQ hv hx
    have hl:v.cells.size=x.ac.length:=by have:=hEx.1;omega
    have hcl:cells.size=cs.length:=by have:=hE.1;omega
    have hf:=vF off v.cells.toList 0 cells (by grind)
    simp only [Nat.add_zero] at hf
    have hfold:v.cells.zipIdx.foldl (fun cs (x:Value×Nat)=>cs.setIfInBounds (off+x.2) x.1) cells=(cells.toList.take off++v.cells.toList++cells.toList.drop (off+v.cells.toList.length)).toArray:=by
     grind[Array.toList_inj,Array.toList_zipIdx]
    have hE2:bY S β w (cells.toList.take off++v.cells.toList++cells.toList.drop (off+v.cells.toList.length)) (ef cs off x.ac):=by
     refine ⟨?_,fun m u c h3 h4=> ?_⟩
     ·grind[ef,List.length_append,List.length_take,List.length_drop,Array.length_toList]
     ·rw [gF _ _ _ _ (by grind)] at h3
      rw [ef,gF _ _ _ _ h2] at h4
      simp only [Array.length_toList,hl] at h3
      by_cases c1:m<off
      ·rw [if_pos c1] at h3 h4;exact hE.2 m u c h3 h4
      ·rw [if_neg c1] at h3 h4
       by_cases c2:m<off+x.ac.length
       ·rw [if_pos c2] at h3 h4;exact hEx.2 _ u c h3 h4
       ·rw [if_neg c2] at h3 h4;exact hE.2 m u c h3 h4
    obtain ⟨out',q1,q2⟩:=iY place ps qs (cells.toList.take off++v.cells.toList++cells.toList.drop (off+v.cells.toList.length)).toArray (ef cs off x.ac) out hP hE2 h
    refine ⟨out',?_,q2⟩
    simp only [Instr.fill,hp]
    grind
 |[],_::_,_,_,_,h,_,_=>h.elim
 |_::_,[],_,_,_,h,_,_=>h.elim
theorem iC {t:TypeId} {z:AV} (h:dw P t=some z) (hd:cx z=false):∃i v,P.info? t=some i∧i.zero=some v∧bY S β w v.cells.toList z.ac:=by
 obtain ⟨v,_,hv,i,hi,hz⟩:=ia (S:=S) (β:=β) (w:=w) h
 exact ⟨i,v,hi,hz,nQ hv (by rintro rfl;cases hd)⟩
theorem Cl {t:TypeId} {ps:Array (Nat×Operand)} {qs:List (Nat×AV)} (ho:o.op= .build t ps) (M:b7 F S β hp w) (hP:vE S β w (ps.toList.map fun x=>(x.1,a.eval x.2)) qs)
  (hr:(xn P t qs sc).bL (ae hp)=some (res,rd)):b9 P F S β hp w a o res:=by
 unfold xn at hr
 cases hu:P.underlying t with
 |none=>rw [hu] at hr;simp at hr;cases hr
 |some d=>
  rw [hu] at hr
  cases d with
  |struct fields=>
   cases hz:dw P t with
   |none=>rw [hz] at hr;cases hr
   |some z=>
    rw [hz] at hr
    simp only at hr
    cases hm:fields.toList.mapM (fun f=>(P.info? f.type).map fun i=>(f.offset,i.size)) with
    |none=>rw [hm] at hr;cases hr
    |some places=>
     rw [hm] at hr
     simp only at hr
     cases hf:jX (places.toArray[·]?) z.ac qs with
     |none=>rw [hf] at hr;cases hr
     |some cs=>
      rw [hf] at hr
      simp only at hr
      by_cases hd:cx z=true
      ·rw [if_pos hd] at hr;cases hr
      ·rw [if_neg hd] at hr
       obtain ⟨e1,e2,_,_⟩:=bB hr
       obtain ⟨i,v,hi,hzv,hE⟩:=iC (S:=S) (β:=β) (w:=w) hz (by grind)
       obtain ⟨out,h1,h2⟩:=iY _ _ _ v.cells _ _ hP hE hf
       refine aV M (v:= .agg out) ?_ e2 ?_
       ·have hb:P.built t (ps.map fun (i,x)=>(i,a.eval x)).toList=some out:=by
         grind[Program.built,Array.toList_map]
        have:=run_build (P:=P) w t (ps.map fun (i,x)=>(i,a.eval x)) out hb
        simp_all[execOp]
       ·rw [e1]
        have:=V.al (S:=S) (β:=β) (w:=w) _ _ h2.1 h2.2
        omega
  |array n e=>
   cases hz:dw P t with
   |none=>rw [hz] at hr;cases hr
   |some z=>
    rw [hz] at hr
    simp only at hr
    cases hs:cJ P e with
    |none=>rw [hs] at hr;cases hr
    |some size=>
     rw [hs] at hr
     simp only at hr
     cases hf:jX (fun i=>some (i*size,size)) z.ac qs with
     |none=>rw [hf] at hr;cases hr
     |some cs=>
      rw [hf] at hr
      simp only at hr
      by_cases hd:cx z=true
      ·rw [if_pos hd] at hr;cases hr
      ·rw [if_neg hd] at hr
       obtain ⟨e1,e2,_,_⟩:=bB hr
       obtain ⟨i,v,hi,hzv,hE⟩:=iC (S:=S) (β:=β) (w:=w) hz (by grind)
       obtain ⟨out,h1,h2⟩:=iY _ _ _ v.cells _ _ hP hE hf
       refine aV M (v:= .agg out) ?_ e2 ?_
       ·unfold cJ at hs
        cases hie:P.info? e with
        |none=>grind
        |some ie=>
         rw [hie] at hs
         simp only [Option.map_some,Option.some.injEq] at hs
         subst hs
         simp [execOp,ho,Instr.build,zeroValue,typeInfo,hi,hzv,run_underlying hu,sizeOf,hie,h1]
       ·rw [e1]
        have:=V.al (S:=S) (β:=β) (w:=w) _ _ h2.1 h2.2
        omega
  |_=>cases hz:dw P t<;>rw [hz] at hr<;>cases hr
end
end
section
def cp (es:List AV):List AV:=(es.map AV.ac).flatten
theorem Cm:cp []=[]:=rfl
theorem kQ (e:AV) (es:List AV):cp (e::es)=e.ac++cp es:=by rfl
theorem dx (es fs:List AV):cp (es++fs)=cp es++cp fs:=by simp [cp]
theorem br {sz:Nat}:∀{es:List AV},(∀e,e∈es→e.ac.length=sz)→(cp es).length=es.length*sz
 |[],_=>by simp [cp]
 |e::es,h=>by
  rw [kQ,List.length_append,h e (by simp),br (fun x hx=>h x (by grind)),List.length_cons,Nat.add_mul,Nat.one_mul,Nat.add_comm]
theorem iD {sz:Nat}:∀{es:List AV},(∀e,e∈es→e.ac.length=sz)→∀{i j:Nat} {e:AV},es[i]? =some e→j<sz→(cp es)[i*sz+j]? =e.ac[j]?
 |[],_,i,j,e,h,_=>by grind
 |x::es,hs,0,j,e,h,hj=>by
  simp_all[kQ,Nat.zero_mul,Nat.zero_add,List.getElem?_append_left]
 |x::es,hs,i+1,j,e,h,hj=>by
  rw [kQ,List.getElem?_append_right (by grind),hs x (by simp)]
  have:=iD (es:=es) (fun y hy=>hs y (List.mem_cons_of_mem _ hy)) (i:=i) (j:=j) (e:=e) (by grind) hj
  grind
theorem y9 {Q:Nat→Value→Prop}:∀(n:Nat),(∀m,m<n→∃u,Q m u)→∃l:List Value,l.length=n∧∀(m:Nat) u,l[m]? =some u→Q m u
 |0,_=>⟨[],rfl,by simp⟩
 |n+1,h=>by
  obtain ⟨l,hl,hq⟩:=y9 n (fun m hm=>h m (by omega))
  obtain ⟨u,hu⟩:=h n (by omega)
  refine ⟨l++[u],by grind,fun m v hv=> ?_⟩
  grind
section
variable {P:Program} {F:Fr} {S:df} {β:bn} {hp:List (Nat×Ob)} {w:World} {a:Act} {o:Oper} {res:dT} {rd:List Nat} {sc:List cv}
theorem bY.ub {vs us:List Value} {xs ys:List AV} (h:bY S β w vs xs) (k:bY S β w us ys):bY S β w (vs++us) (xs++ys):=by
 refine ⟨by rw [List.length_append,List.length_append,h.1,k.1],fun i v x hv hx=> ?_⟩
 by_cases c:i<vs.length
 ·rw [List.getElem?_append_left c] at hv
  rw [List.getElem?_append_left (by rw [←h.1];omega)] at hx
  exact h.2 i v x hv hx
 ·rw [List.getElem?_append_right (by omega)] at hv
  rw [List.getElem?_append_right (by rw [←h.1];omega),←h.1] at hx
  exact k.2 _ v x hv hx
theorem bY.bR {S':df} {β':bn} {w':World} (E:lg S S' β β' w w') {vs:List Value} {xs:List AV} (h:bY S β w vs xs):bY S' β' w' vs xs:=⟨h.1,fun i v x h1 h2=>(h.2 i v x h1 h2).Ke E⟩
theorem HR.pA {bi:Bl} {es:List AV} {cur:Array Value} {t:TypeId} (h1:w.heap[bi.bG]? =some (.cells cur t (0,0))) (h2:cur.size=bi.f5*bi.sz) (h3:es.length≤bi.f5) (h4:bi.f5≤maxLen)
  (h5:∀e,e∈es→e.ac.length=bi.sz) (h6:bY S β w (cur.toList.take (es.length*bi.sz)) (cp es)):HR S β w bi es:=by
 refine ⟨cur,t,h1,h2,h3,h4,fun i e he=>h5 e (List.mem_of_getElem? he),fun i j e c he hc=> ?_⟩
 have hj:j<bi.sz:=by grind
 have hf:=iD h5 he hj
 rw [hc] at hf
 have hlt:=(List.getElem?_eq_some_iff.1 hf).1
 have hv:(cur.toList.take (es.length*bi.sz))[i*bi.sz+j]? =some ((cur.toList.take (es.length*bi.sz))[i*bi.sz+j]'(by rw [h6.1];omega)):=List.getElem?_eq_getElem _
 refine ⟨_,?_,h6.2 _ _ c hv hf⟩
 simp
theorem HR.y8 {bi:Bl} {es:List AV} (h:HR S β w bi es):∃cur t,w.heap[bi.bG]? =some (.cells cur t (0,0))∧cur.size=bi.f5*bi.sz∧es.length≤bi.f5∧bi.f5≤maxLen∧(∀e,e∈es→e.ac.length=bi.sz)∧
  bY S β w (cur.toList.take (es.length*bi.sz)) (cp es):=by
 obtain ⟨cur,t,h1,h2,h3,h4,h5,h6⟩:=h
 have h5':∀e,e∈es→e.ac.length=bi.sz:=fun e he=>by grind[List.mem_iff_getElem?]
 have hle:es.length*bi.sz≤cur.size:=by simp_all[Nat.mul_le_mul_right]
 refine ⟨cur,t,h1,h2,h3,h4,h5',by rw [br h5',List.length_take];grind,fun m v x hv hx=> ?_⟩
 have hm:m<es.length*bi.sz:=by grind
 have hpos:0<bi.sz:=by
  grind
 have hi:m/bi.sz<es.length:=Nat.div_lt_of_lt_mul (by grind)
 have hj:m%bi.sz<bi.sz:=Nat.mod_lt _ hpos
 have hmd:m/bi.sz*bi.sz+m%bi.sz=m:=by rw [Nat.mul_comm];exact Nat.div_add_mod m bi.sz
 have he:es[m/bi.sz]? =some es[m/bi.sz]:=List.getElem?_eq_getElem hi
 have hf:=iD h5' he hj
 grind
theorem uc {d n cap sz:Nat} {es:List AV} {cur:Array Value} {t:TypeId} (M:b7 F S β hp w) (hd:ae hp d=none) (hn:es.length=n) (h2:cur.size=cap*sz) (h3:n≤cap) (h4:cap≤maxLen) (h5:∀e,e∈es→e.ac.length=sz)
  (h6:bY S β w (cur.toList.take (n*sz)) (cp es)):
  ∃S' β',lg S S' β β' w (w.alloc (.cells cur t))∧b7 F S' β' (ba hp d (.aw sz es)) (w.alloc (.cells cur t))∧V S' β' (w.alloc (.cells cur t)) (.slice (some ⟨w.heap.size,0,none⟩) n cap) (.aw d 0 n):=by
 have hE0:lg S S β (β.nM d ⟨w.heap.size,sz,cap⟩) w (w.alloc (.cells cur t)):=⟨fun _ h=>h,bn.dQ (M.ff hd),fun b hb=>heap_alloc_old w _ (M.sub b hb)⟩
 have hob:HO S (β.nM d ⟨w.heap.size,sz,cap⟩) (w.alloc (.cells cur t)) d (.aw sz es):=
  ⟨_,bn.cV _ _ _,rfl,HR.pA (heap_alloc_new w _) h2 (by grind) h4 h5 (by grind[h6.bR])⟩
 obtain ⟨E,M'⟩:=M.yY hd (.cells cur t) (.aw sz es) (fun j a b h=>by cases h) sz cap hob
 refine ⟨S,_,E,M',?_⟩
 have:=V.aw (S:=S) (β:=β.nM d ⟨w.heap.size,sz,cap⟩) (w:=w.alloc (.cells cur t)) d 0 n ⟨w.heap.size,0,none⟩ _ (bn.cV _ _ _) (by grind) (fun _=>by simp)
 omega
theorem sH {n sz:Nat} (hsz:0<sz):∀(ps:List (Nat×AV)) (k:Nat) (cs:List AV),ps.map (·.1)=List.range' k ps.length→(∀p,p∈ps→cx p.2=false∧p.2.ac.length=sz)→k+ps.length=n→cs.length=n*sz→
  jX (fun i=>some (i*sz,sz)) cs ps=some (cs.take (k*sz)++cp (ps.map (·.2)))
 |[],k,cs,_,_,hk,hl=>by
  grind[jX,Cm,List.take_of_length_le]
 |(i,v)::ps,k,cs,hi,hv,hk,hl=>by
  simp only [List.map_cons,List.length_cons,List.range'_succ] at hi
  injection hi with h1 h2
  subst h1
  obtain ⟨d1,d2⟩:=hv (i,v) (by simp)
  simp only [List.length_cons] at hk
  have hle:i*sz+sz≤cs.length:=by
   rw [hl]
   have:=Nat.mul_le_mul_right sz (show i+1≤n by omega)
   grind
  simp only [jX]
  rw [if_neg (by grind)]
  simp only at d2
  have hol:(ef cs (i*sz) v.ac).length=n*sz:=by
   grind[ef,List.length_append,List.length_take,List.length_drop]
  rw [sH hsz ps (i+1) _ h2 (fun p hp=>hv p (by grind)) (by omega) hol]
  congr 1
  simp only [List.map_cons,kQ,←List.append_assoc]
  congr 1
  have:(i+1)*sz=i*sz+sz:=by grind
  grind[ef,List.length_append,List.length_take,List.take_of_length_le]
theorem rS {t:TypeId} {n d:Nat} {ps:Array (Nat×Operand)} {qs:List (Nat×AV)} (ho:o.op= .buildSlice t n ps) (M:b7 F S β hp w) (hP:vE S β w (ps.toList.map fun x=>(x.1,a.eval x.2)) qs)
  (hr:(B' P d t n qs sc).bL (ae hp)=some (res,rd)) (hc:∀c,c∈res.cs→c.p) (hn:∀id,id∈res.dN→ae hp id=none):b9 P F S β hp w a o res:=by
 unfold B' at hr
 cases hu:P.underlying t with
 |none=>rw [hu] at hr;cases hr
 |some ds=>
  rw [hu] at hr
  cases ds<;>first
   |(cases hr;done)
   |skip
  rename_i e
  simp only at hr
  cases hs:cJ P e with
  |none=>rw [hs] at hr;cases hr
  |some sz=>
   cases hz:dw P e with
   |none=>rw [hs,hz] at hr;cases hr
   |some z=>
    rw [hs,hz] at hr
    simp only at hr
    obtain ⟨zv,hzrun,hzV,iz,hiz,hzz⟩:=ia (S:=S) (β:=β) (w:=w) hz
    by_cases h0:n=0
    ·rw [if_pos h0] at hr
     by_cases hem:qs.isEmpty=true
     ·rw [if_pos hem] at hr
      obtain ⟨e1,e2,_,_⟩:=bB hr
      subst h0
      have hqs:qs=[]:=List.isEmpty_iff.1 hem
      subst hqs
      have hps:ps.toList=[]:=by
       cases h:ps.toList with
       |nil=>rfl
       |cons x xs=>rw [h] at hP;exact hP.elim
      have hrun:(Instr.buildSlice t 0 (ps.map fun (i,x)=>(i,a.eval x))).run P w= .ok (.slice (some ⟨w.heap.size,0,none⟩) 0 0) (w.alloc (.cells #[] e)):=by
       simp_all[Instr.buildSlice,run_underlying,cW,Instr.fill,newRow,Array.range_zero']
      have hE:lg S S β β w (w.alloc (.cells #[] e)):=⟨fun _ h=>h,fun _ _ h=>h,fun b hb=>heap_alloc_old w _ (M.sub b hb)⟩
      refine bM (v:= .slice (some ⟨w.heap.size,0,none⟩) 0 0) (w':=w.alloc (.cells #[] e)) (S':=S) (β':=β) ?_ hE ?_ ?_
      ·simp_all[execOp]
      ·rw [e2]
       exact M.N4 _
      ·rw [e1]
       exact .aF _ 0 0 0 0 [] true (fun _ _=>undef) (by simp) (by simp) (fun _=>rfl) (fun h=>absurd rfl h) (by simp) (by simp) (by simp)
     ·rw [if_neg hem] at hr;cases hr
    ·rw [if_neg h0] at hr
     by_cases hall:qs.map (·.1)=List.range n∧qs.all (fun x=> !cx x.2&&x.2.ac.length==sz)∧n*sz≤16777216∧0<sz∧z.ac.length=sz
     ·rw [if_pos hall] at hr
      obtain ⟨g1,g2,g3,g4,g5⟩:=hall
      have hql:qs.length=n:=by have:=congrArg List.length g1;grind
      have hqv:∀p,p∈qs→cx p.2=false∧p.2.ac.length=sz:=by
       grind
      have hfill:=sH (n:=n) g4 qs 0 (List.replicate (n*sz) .aB) (by grind[List.range_eq_range']) hqv (by omega) (by simp)
      simp only [Nat.zero_mul,List.take_zero,List.nil_append] at hfill
      let cells0:Array Value:=(Array.range (n*sz)).map (zv.cells[· %zv.cells.size]!)
      have hE0:bY S β w cells0.toList (List.replicate (n*sz) .aB):=by
       refine ⟨by grind,fun i v x hv hx=> ?_⟩
       rw [List.getElem?_replicate] at hx
       split at hx
       ·injection hx with hx;subst hx;exact .aB _
       grind
      obtain ⟨out,f1,f2⟩:=iY _ _ _ cells0 _ _ hP hE0 hfill
      have huni:∀e,e∈qs.map (·.2)→e.ac.length=sz:=by
       grind
      have hfl:(cp (qs.map (·.2))).length=n*sz:=by grind[br,List.length_map]
      have hout:out.size=n*sz:=by have:=f2.1;grind
      have hlen63:n≤maxLen:=by
       have:n*1≤n*sz:=Nat.mul_le_mul_left n g4
       grind[maxLen]
      have hne:¬(n*sz=0):=by
       have:0<n*sz:=Nat.mul_pos (by omega) g4
       omega
      have hle:¬(n*sz>16777216):=by omega
      have f1':Instr.fill (fun i=>some (i*sz,sz)) cells0 ((ps.map fun (i,x)=>(i,a.eval x)).toList)=some out:=by
       simp_all
      have hrun:(Instr.buildSlice t n (ps.map fun (i,x)=>(i,a.eval x))).run P w= .ok (.slice (some ⟨w.heap.size,0,none⟩) n n) (w.alloc (.cells out e)):=by
       simp only [Instr.buildSlice,Sem.run_bind,run_underlying hu,Result.andThen_ok,cW hs]
       rw [if_neg (by omega),if_neg hne]
       simp only [Sem.run_bind,Sem.run_pure,Result.andThen_ok,hzrun]
       simp only [cells0] at f1'
       simp_all[newRow]
      have hexec:(execOp a.eval o).run P w= .ok (.value (.slice (some ⟨w.heap.size,0,none⟩) n n)) (w.alloc (.cells out e)):=by simp_all[execOp]
      split at hr
      ·obtain ⟨e1,e2,_,e4⟩:=bQ hr
       have hno:=hc _ (by rw [e4];exact List.mem_singleton.2 rfl)
       have hE0:lg S S β β w (w.alloc (.cells out e)):=⟨fun _ h=>h,fun _ _ h=>h,fun b hb=>heap_alloc_old w _ (M.sub b hb)⟩
       have hHR:HR S β (w.alloc (.cells out e)) ⟨w.heap.size,sz,n⟩ (qs.map (·.2)):=HR.pA (heap_alloc_new w _) hout (by grind) hlen63 huni (by grind[List.length_map,List.take_of_length_le,f2.bR])
       obtain ⟨E,M'⟩:=M.lO (S':=fun b=>S b∨b=w.heap.size) (w':=w.alloc (.cells out e)) (fun b h=> .inl h) (fun b h=>h.imp (fun h=>h) (fun h=>by omega)) (fun b h=>by rcases h with h|h<;>first|(have:=M.sub b h;simp;omega)|simp_all) rfl rfl rfl (by simp) (fun b hb=>heap_alloc_old w _ hb)
       obtain ⟨cur,t',r1,r2,r3,r4,r5,r6⟩:=hHR.mC (S':=fun b=>S b∨b=w.heap.size) (fun b h=> .inl h) hno
       refine bM (v:= .slice (some ⟨w.heap.size,0,none⟩) n n) hexec E (by rw [e2];exact M') ?_
       rw [e1]
       have hlen:n=(qs.map (·.2)).length:=by grind
       have hV:V (fun b=>S b∨b=w.heap.size) β (w.alloc (.cells out e)) (.slice (some ⟨w.heap.size,0,none⟩) (qs.map (·.2)).length n) (.aF (qs.map (·.2)) false):=by
        refine .aF _ n sz w.heap.size 0 (qs.map (·.2)) false (fun i j=>(cur[i*sz+j]?).getD undef) r3 r4 (fun h=>by omega) (fun _=>⟨rfl,.inr rfl⟩) r5 (fun i j e' c h1 h2=> ?_) (fun i j e' c h1 h2=> ?_) (fun h=>by grind)
        ·obtain ⟨u,hu,_⟩:=r6 i j e' c h1 h2
         have hu':cur[i*sz+j]? =some u:=hu
         rw [Nat.zero_add,cK r1,hu']
         rfl
        grind
       grind
      ·injection hr with hr;injection hr with hr _;subst hr
       obtain ⟨S',β',E,M',hv⟩:=uc (d:=d) (n:=n) (cap:=n) (sz:=sz) (es:=qs.map (·.2)) (cur:=out) (t:=e) M (hn d (by simp)) (by grind) hout (Nat.le_refl _) hlen63 huni
        (by grind[List.take_of_length_le])
       exact bM (v:= .slice (some ⟨w.heap.size,0,none⟩) n n) (w':=w.alloc (.cells out e)) hexec E M' hv
     ·rw [if_neg hall] at hr;cases hr
end
end
section
section
variable {P:Program} {F:Fr} {S:df} {β:bn} {hp:List (Nat×Ob)} {w:World} {a:Act} {o:Oper} {res:dT} {rd:List Nat} {sc:List cv}
theorem ud {t:TypeId} {d:Nat} {x y:Operand} {n c:Int} (ho:o.op= .makeSlice t x y) (M:b7 F S β hp w) (hx:V S β w (a.eval x) (.aP .i64 n)) (hy:V S β w (a.eval y) (.aP .i64 c))
  (hr:(lM P d t n c sc).bL (ae hp)=some (res,rd)) (hc:∀c,c∈res.cs→c.p) (hn:∀id,id∈res.dN→ae hp id=none):b9 P F S β hp w a o res:=by
 unfold lM at hr
 generalize hvx:a.eval x=vx at hx
 generalize hvy:a.eval y=vy at hy
 cases hx;cases hy
 cases hu:P.underlying t with
 |none=>rw [hu] at hr;cases hr
 |some ds=>
  rw [hu] at hr
  cases ds<;>first
   |(cases hr;done)
   |skip
  rename_i e
  simp only at hr
  cases hi:P.info? e with
  |none=>rw [hi] at hr;cases hr
  |some i=>
   cases hz:dw P e with
   |none=>rw [hi,hz] at hr;cases hr
   |some z=>
    rw [hi,hz] at hr
    simp only at hr
    by_cases hg:z.ac.length=i.size∧0<i.size∧¬cx z=true
    ·rw [if_pos hg] at hr
     injection hr with hr;injection hr with hr _;subst hr
     obtain ⟨g1,g2,g3⟩:=hg
     obtain ⟨hnc,h0,hb,h63⟩:=hc _ (List.mem_singleton.2 rfl)
     subst hnc
     obtain ⟨i',zv,hi',hzv,hE⟩:=iC (S:=S) (β:=β) (w:=w) hz (by grind)
     rw [hi] at hi';injection hi' with hi';subst hi'
     have hzs:zv.cells.size=i.size:=by have:=hE.1;grind
     obtain ⟨m,rfl⟩:=Int.eq_ofNat_of_zero_le h0
     have hb':(i.bytes:Int)*(m:Int)≤281474976710656:=by grind
     have hrun:=run_make (P:=P) w t e i zv hu hi hzv .i64 .i64 m m h0 (Int.le_refl _) hb' h63
     rw [Int.toNat_natCast] at hrun
     have hsz:(madeCells zv.cells (m*i.size)).size=m*i.size:=by simp [madeCells]
     have huni:∀e,e∈List.replicate m z→e.ac.length=i.size:=by
      grind
     have hflat:bY S β w ((madeCells zv.cells (m*i.size)).toList.take (m*i.size)) (cp (List.replicate m z)):=by
      rw [List.take_of_length_le (by grind)]
      refine ⟨by grind[br,List.length_replicate],fun j v q hv hq=> ?_⟩
      have hj:j<m*i.size:=by grind
      have hjm:j%i.size<i.size:=Nat.mod_lt _ g2
      have hjd:j/i.size<m:=Nat.div_lt_of_lt_mul (by grind)
      have hmd:j/i.size*i.size+j%i.size=j:=by rw [Nat.mul_comm];exact Nat.div_add_mod j i.size
      have hrep:(List.replicate m z)[j/i.size]? =some z:=by grind
      have hf:=iD huni hrep hjm
      rw [hmd,hq] at hf
      have hzc:zv.cells.toList[j%i.size]? =some (zv.cells[j%i.size]'(by omega)):=by
       simp
      have hvv:v=zv.cells[j%i.size]'(by omega):=by
       simp_all[Array.getElem?_toList,madeCells,Array.getElem?_map,Array.getElem?_range,if_pos,Option.map_some]
      rw [hvv]
      exact hE.2 _ _ q hzc hf.symm
     obtain ⟨S',β',E,M',hv⟩:=uc (d:=d) (n:=m) (cap:=m) (sz:=i.size) (es:=List.replicate m z) (t:=e) M (hn d (by simp)) (by simp) hsz (Nat.le_refl _) (by grind[maxLen]) huni hflat
     refine bM (v:= .slice (some ⟨w.heap.size,0,none⟩) m m) ?_ E (by grind[bc]) (by grind)
     simp_all[execOp]
    ·rw [if_neg hg] at hr;cases hr
theorem sK {y:AV} {k:List AV→iy→Rd dT} (M:b7 F S β hp w) (h:(ed y k).bL (ae hp)=some (res,rd)):∃ys q rd',(k ys q).bL (ae hp)=some (res,rd')∧(∀k' r' l',(k' ys q).bL (ae hp)=some (r',l')→∃m,(ed y k').bL (ae hp)=some (r',m))∧
  ∀vy sz,V S β w vy y→q.p→(∀e,e∈ys→e.ac.length=sz)→∃p c,vy= .slice p ys.length c∧(ys≠[]→∃ad news,p=some ad∧bY S β w news (cp ys)∧∀(j:Nat) v,news[j]? =some v→w.cell? (ad.add j)=some v):=by
 cases y with
 |aF es clip=>
  refine ⟨es,pN True,rd,h,fun k' r' l' g=>⟨l',g⟩,fun vy sz hv _ hu=> ?_⟩
  cases hv with
  |aF p cap sz' b q _ _ U hcap hmax hclip hp' hsz hcc hvv=>
   refine ⟨p,cap,rfl,fun hne=> ?_⟩
   obtain ⟨rfl,hS⟩:=hp' hne
   have hss:sz'=sz:=by
    obtain ⟨e,l,rfl⟩:=List.exists_cons_of_ne_nil hne
    rw [←hsz 0 e rfl];grind
   subst hss
   have hcol:∀m,m<es.length*sz'→∃u,w.cell? ⟨b,q+m,none⟩=some u∧∀c,(cp es)[m]? =some c→V S β w u c:=by
    intro m hm
    have hpos:0<sz':=by
     grind
    have hi:m/sz'<es.length:=Nat.div_lt_of_lt_mul (by grind)
    have hj:m%sz'<sz':=Nat.mod_lt _ hpos
    have hmd:m/sz'*sz'+m%sz'=m:=by simp[Nat.mul_comm,Nat.div_add_mod]
    have he:es[m/sz']? =some es[m/sz']:=List.getElem?_eq_getElem hi
    have hce:es[m/sz'].ac[m%sz']? =some (es[m/sz'].ac[m%sz']'(by grind)):=List.getElem?_eq_getElem _
    refine ⟨U (m/sz') (m%sz'),?_,fun c hc=> ?_⟩
    ·grind
    ·have hf:=iD hu he hj
     rw [hmd,hc] at hf
     exact (hvv _ _ _ _ he hf.symm).up
   obtain ⟨news,hl,hq⟩:=y9 _ hcol
   refine ⟨⟨b,q,none⟩,news,rfl,⟨by grind[br],fun i v x h1 h2=>(hq i v h1).2 x h2⟩,fun j v hj=>by grind[Addr.add_lit]⟩
 |aw id off len=>
  simp only [ed,Rd.bL] at h
  cases hl:ae hp id with
  |none=>grind
  |some ob=>
   rw [hl] at h
   have hob:=M.dg id ob hl
   cases ob with
   |aw sz0 es=>
    simp only at h
    cases hk:(k ((es.drop off).take len) (pN (off+len≤es.length))).bL (ae hp) with
    |none=>grind
    |some p=>
     obtain ⟨r1,l1⟩:=p
     rw [hk] at h
     injection h with h;injection h with h1 h2
     subst h1
     refine ⟨_,_,l1,hk,fun k' r' l' g=>⟨id::l',by grind[ed,Rd.bL]⟩,fun vy sz hv hq hu=> ?_⟩
     obtain ⟨bj,q1,q2,q3⟩:=hob
     cases hv with
     |aw _ _ _ ad bi hb hle ha=>
      rw [hb] at q1;injection q1 with q1;subst q1
      obtain ⟨cur,ty,r1,r2,r3,r4,r5,r6⟩:=q3.y8
      have hlen:((es.drop off).take len).length=len:=by grind
      refine ⟨some ad,bi.f5-off,by grind,fun hne=> ?_⟩
      have hpos:0<len:=by
       grind
      have hss:bi.sz=sz:=by
       obtain ⟨e,l,he⟩:=List.exists_cons_of_ne_nil hne
       have h1:e∈(es.drop off).take len:=by grind
       grind
      have had:=ha (by omega)
      have hsplit:cp es=cp (es.take off)++(cp ((es.drop off).take len)++cp ((es.drop off).drop len)):=by
       grind[dx,List.take_append_drop]
      have hl1:(cp (es.take off)).length=off*bi.sz:=by
       grind[br,List.mem_of_mem_take,List.length_take,Nat.min_eq_left]
      have hl2:(cp ((es.drop off).take len)).length=len*bi.sz:=by
       grind[br,List.mem_of_mem_drop,List.mem_of_mem_take]
      rw [hsplit] at r6
      have s1:=r6.jv.2.jv.1
      rw [hl1] at s1
      refine ⟨ad,_,rfl,s1,fun j v hj=> ?_⟩
      grind[Addr.add_lit,cK]
   |_=>cases h
 |aO id len=>
  simp only [ed,Rd.bL] at h
  cases hl:ae hp id with
  |none=>grind
  |some ob=>
   rw [hl] at h
   have hob:=M.dg id ob hl
   cases ob with
   |ao sz0 es=>
    simp only at h
    cases hk:(k (es.take len) (pN (len≤es.length))).bL (ae hp) with
    |none=>grind
    |some p=>
     obtain ⟨r1,l1⟩:=p
     rw [hk] at h
     injection h with h;injection h with h1 h2
     subst h1
     refine ⟨_,_,l1,hk,fun k' r' l' g=>⟨id::l',by grind[ed,Rd.bL]⟩,fun vy sz hv hq hu=> ?_⟩
     cases hv with
     |ft=>simp
     |ix _ _ ad bi hb hle ha hne0=>
      have hq:len≤es.length:=hq
      rcases hob with h0|⟨bj,q1,q2,q3⟩
      ·grind
      rw [hb] at q1;injection q1 with q1;subst q1
      have ha:0<bi.f5→ad=⟨bi.bG,0*bi.sz,none⟩:=fun _=>by grind
      have hdz:es.take len=(es.drop 0).take len:=rfl
      rw [hdz] at hu⊢
      generalize ho0:(0:Nat)=off at*
      obtain ⟨cur,ty,r1,r2,r3,r4,r5,r6⟩:=q3.y8
      have hlen:((es.drop off).take len).length=len:=by grind
      refine ⟨some ad,bi.f5,by grind,fun hne=> ?_⟩
      have hpos:0<len:=by
       omega
      have hss:bi.sz=sz:=by
       obtain ⟨e,l,he⟩:=List.exists_cons_of_ne_nil hne
       have h1:e∈(es.drop off).take len:=by grind
       grind
      have had:=ha (by omega)
      have hsplit:cp es=cp (es.take off)++(cp ((es.drop off).take len)++cp ((es.drop off).drop len)):=by
       grind[dx,List.take_append_drop]
      have hl1:(cp (es.take off)).length=off*bi.sz:=by
       grind[br,List.mem_of_mem_take,List.length_take,Nat.min_eq_left]
      have hl2:(cp ((es.drop off).take len)).length=len*bi.sz:=by
       grind[br,List.mem_of_mem_drop,List.mem_of_mem_take]
      rw [hsplit] at r6
      have s1:=r6.jv.2.jv.1
      rw [hl1] at s1
      refine ⟨ad,_,rfl,s1,fun j v hj=> ?_⟩
      rw [List.getElem?_take] at hj
      split at hj
      ·rw [List.getElem?_drop,List.getElem?_take] at hj
       split at hj
       ·rw [had,Addr.add_lit,cK r1]
        grind
       grind
      grind
   |_=>cases h
 |_=>cases h
theorem fw {y:AV} {k:List AV→iy→Rd dT} (M:b7 F S β hp w) (h:(ed y k).bL (ae hp)=some (res,rd)):∃ys q rd',(k ys q).bL (ae hp)=some (res,rd')∧
  ∀vy sz,V S β w vy y→q.p→(∀e,e∈ys→e.ac.length=sz)→∃p c,vy= .slice p ys.length c∧(ys≠[]→∃ad news,p=some ad∧bY S β w news (cp ys)∧∀(j:Nat) v,news[j]? =some v→w.cell? (ad.add j)=some v):=by
 grind[sK]
theorem ib {t e:TypeId} {i:TypeInfo} (hu:P.underlying t=some (.slice e)) (hi:P.info? e=some i) (ty:TypeId) (p:Option Addr) (n cap:Nat) (hn:n≤cap) (q:Option Addr) (c:Nat):
  (Builtin.append_ #[t,t] ty #[.slice p n cap,.slice q 0 c]).run P w= .ok (.slice p n cap) w:=by
 cases p<;>cases q<;>simp [Builtin.append_,run_underlying hu,sizeOf,typeInfo,hi,Builtin.lenOf,hn,Builtin.firstCells,loadCells,loadCellsFrom,storeCells]
theorem oO {t e:TypeId} {i:TypeInfo} (hu:P.underlying t=some (.slice e)) (hi:P.info? e=some i) (ty tb:TypeId) (g n cap:Nat) (cur:Array Value) (hg:w.heap[g]? =some (.cells cur tb (0,0)))
  (ad:Addr) (m c:Nat) (news:List Value) (hl:news.length=m*i.size) (hnews:∀(j:Nat) u,news[j]? =some u→w.cell? (ad.add j)=some u) (h1:∀u,u∈news→u.oneCell'=true) (hroom:n+m≤cap) (hfit:n*i.size+news.length≤cur.size):
  (Builtin.append_ #[t,t] ty #[.slice (some ⟨g,0,none⟩) n cap,.slice (some ad) m c]).run P w=
   .ok (.slice (some ⟨g,0,none⟩) (n+m) cap) (w.setRow g (cur.toList.take (n*i.size)++news++cur.toList.drop (n*i.size+news.length)).toArray):=by
 have hf:=run_firstCells_some (P:=P) w i.size m ad m c news hl hnews
 have hst:=run_storeCells_at P g (n*i.size) tb news 0 cur w hg (by omega) h1
 simp only [Nat.add_zero] at hst
 simp [Builtin.append_,run_underlying hu,sizeOf,typeInfo,hi,Builtin.lenOf,hroom,hf,Addr.add_lit,hst]
theorem bY.vn {vs:List Value} {xs:List AV} (h:bY S β w vs xs) (hs:∀c,c∈xs→cj c=true):∀v,v∈vs→v.oneCell'=true:=by
 intro v hv
 obtain ⟨i,hi⟩:=List.mem_iff_getElem?.1 hv
 have hl:=h.1
 have hilt:i<vs.length:=(List.getElem?_eq_some_iff.1 hi).1
 have hxi:xs[i]? =some (xs[i]'(by omega)):=List.getElem?_eq_getElem (by omega)
 exact sC (h.2 i v _ hi hxi) (hs _ (List.mem_of_getElem? hxi))
theorem lS {sz:Nat} {es:List AV} (h:∀e,e∈es→c8 sz e):∀c,c∈cp es→cj c=true:=by
 intro c hc
 simp only [cp,List.mem_flatten,List.mem_map] at hc
 obtain ⟨l,⟨e,he,rfl⟩,hcl⟩:=hc
 exact (h e he).2 c hcl
theorem AK {sz:Nat} {es:List AV} (h:∀e,e∈es→e.ac.length=sz) (k:Nat) (hk:k≤es.length):cp (es.take k)=(cp es).take (k*sz):=by
 have h1:cp es=cp (es.take k)++cp (es.drop k):=by grind[dx,List.take_append_drop]
 have h2:(cp (es.take k)).length=k*sz:=by
  grind[br,List.mem_of_mem_take,List.length_take,Nat.min_eq_left]
 grind
theorem AJ {sz:Nat} {es:List AV} (h:∀e,e∈es→e.ac.length=sz) (k:Nat) (hk:k≤es.length):cp (es.drop k)=(cp es).drop (k*sz):=by
 have h1:cp es=cp (es.take k)++cp (es.drop k):=by grind[dx,List.take_append_drop]
 have h2:(cp (es.take k)).length=k*sz:=by
  grind[br,List.mem_of_mem_take,List.length_take,Nat.min_eq_left]
 grind
theorem HR.xL {bi:Bl} {es ys:List AV} (h:HR S β w bi es) (hS:¬S bi.bG) (hsub:∀b,S b→b<w.heap.size) {k:Nat} {news:List Value} (hk:k+ys.length≤es.length) (hys:∀e,e∈ys→e.ac.length=bi.sz) (k2:bY S β w news (cp ys)):
  ∃cur t,w.heap[bi.bG]? =some (.cells cur t (0,0))∧cur.size=bi.f5*bi.sz∧k*bi.sz+news.length≤cur.size∧
   HR S β (w.setRow bi.bG (cur.toList.take (k*bi.sz)++news++cur.toList.drop (k*bi.sz+news.length)).toArray) bi (es.take k++ys++es.drop (k+ys.length)):=by
 obtain ⟨cur,ty,r1,r2,r3,r4,r5,r6⟩:=h.y8
 have hnl:news.length=ys.length*bi.sz:=by rw [k2.1,br hys]
 have hcs:cur.toList.length=cur.size:=Array.length_toList
 have hfit0:es.length*bi.sz≤cur.size:=by simp_all[Nat.mul_le_mul_right]
 have hmul:k*bi.sz+ys.length*bi.sz≤es.length*bi.sz:=by rw [←Nat.add_mul];exact Nat.mul_le_mul_right _ hk
 have hfit:k*bi.sz+news.length≤cur.size:=by omega
 refine ⟨cur,ty,r1,r2,hfit,?_⟩
 have hT:mK bi w (w.setRow bi.bG (cur.toList.take (k*bi.sz)++news++cur.toList.drop (k*bi.sz+news.length)).toArray):=d' bi.bG _ rfl
 have E0:lg S S β β w (w.setRow bi.bG (cur.toList.take (k*bi.sz)++news++cur.toList.drop (k*bi.sz+news.length)).toArray):=
  ⟨fun _ h=>h,fun _ _ h=>h,fun b hb'=>hT.gD b (hsub b hb') (fun e=>hS (e▸hb'))⟩
 have hlen:(es.take k++ys++es.drop (k+ys.length)).length=es.length:=by
  grind
 refine HR.pA (setRow_heap w bi.bG cur _ ty (0,0) r1) ?_ (by omega) r4 (fun e he=> ?_) ?_
 ·grind
 ·grind
 ·rw [hlen,dx,dx,AK r5 k (by omega),AJ r5 (k+ys.length) (by omega)]
  have hl1:(cur.toList.take (k*bi.sz)).length=k*bi.sz:=by grind
  have h1:((cur.toList.take (k*bi.sz)++news++cur.toList.drop (k*bi.sz+news.length)).toArray.toList.take (es.length*bi.sz))=cur.toList.take (k*bi.sz)++news++(cur.toList.take (es.length*bi.sz)).drop ((k+ys.length)*bi.sz):=by
   have e1:k*bi.sz+news.length=(k+ys.length)*bi.sz:=by grind
   rw [List.toList_toArray,List.take_append,List.drop_take,e1]
   have e2:(cur.toList.take (k*bi.sz)++news).length=(k+ys.length)*bi.sz:=by grind
   grind[List.take_of_length_le,Nat.add_mul]
  rw [h1]
  have e3:cur.toList.take (k*bi.sz)=(cur.toList.take (es.length*bi.sz)).take (k*bi.sz):=by grind
  have hfin:=(((r6.xE (k*bi.sz)).ub k2).ub (r6.AH ((k+ys.length)*bi.sz))).bR E0
  grind
theorem AL {z:AV} {zv:Value} {sz:Nat} (hE:bY S β w zv.cells.toList z.ac) (hzs:zv.cells.size=sz) (g1:z.ac.length=sz) (g2:0<sz) (m:Nat):bY S β w (madeCells zv.cells (m*sz)).toList (cp (List.replicate m z)):=by
 have huni:∀e,e∈List.replicate m z→e.ac.length=sz:=by
  grind
 have hsz:(madeCells zv.cells (m*sz)).size=m*sz:=by simp [madeCells]
 refine ⟨by grind[br,List.length_replicate],fun j v q hv hq=> ?_⟩
 have hj:j<m*sz:=by grind
 have hjm:j%sz<sz:=Nat.mod_lt _ g2
 have hjd:j/sz<m:=Nat.div_lt_of_lt_mul (by grind)
 have hmd:j/sz*sz+j%sz=j:=by simp[Nat.mul_comm,Nat.div_add_mod]
 have hrep:(List.replicate m z)[j/sz]? =some z:=by grind
 have hf:=iD huni hrep hjm
 rw [hmd,hq] at hf
 have hzc:zv.cells.toList[j%sz]? =some (zv.cells[j%sz]'(by omega)):=by
  simp
 have hvv:v=zv.cells[j%sz]'(by omega):=by
  simp_all[Array.getElem?_toList,madeCells,Array.getElem?_map,Array.getElem?_range,if_pos,Option.map_some]
 rw [hvv]
 exact hE.2 _ _ q hzc hf.symm
end
end
section
section
variable {P:Program} {F:Fr} {S:df} {β:bn} {hp:List (Nat×Ob)} {w:World} {a:Act} {o:Oper} {res:dT} {rd:List Nat} {sc:List cv}
theorem qe {d cap e:Nat} {z:Value} {i:TypeInfo} {es ys:List AV} {olds news:List Value} (M:b7 F S β hp w) (hd:ae hp d=none) (hz:z.cells.size=i.size) (h1:∀e,e∈es→e.ac.length=i.size) (h2:∀e,e∈ys→e.ac.length=i.size)
  (k1:bY S β w olds (cp es)) (k2:bY S β w news (cp ys)) (hmax:es.length+ys.length≤maxLen):
  ∃S' β',lg S S' β β' w (w.drew.alloc (.cells (olds.toArray++news.toArray++Builtin.zeroCells z.cells (grownCap w (es.length+ys.length) cap e-(es.length+ys.length))) e))∧
   b7 F S' β' (ba hp d (.aw i.size (es++ys))) (w.drew.alloc (.cells (olds.toArray++news.toArray++Builtin.zeroCells z.cells (grownCap w (es.length+ys.length) cap e-(es.length+ys.length))) e))∧
   V S' β' (w.drew.alloc (.cells (olds.toArray++news.toArray++Builtin.zeroCells z.cells (grownCap w (es.length+ys.length) cap e-(es.length+ys.length))) e)) (.slice (some ⟨w.heap.size,0,none⟩) (es.length+ys.length) (grownCap w (es.length+ys.length) cap e)) (.aw d 0 (es.length+ys.length)):=by
 have hge:=grownCap_ge w (es.length+ys.length) cap e
 have hcm:grownCap w (es.length+ys.length) cap e≤maxLen:=grownCap_le_maxLen w _ cap e hmax
 have M':b7 F S β hp w.drew:=M.xA rfl rfl rfl rfl
 have E0:lg S S β β w w.drew:=⟨fun _ h=>h,fun _ _ h=>h,fun _ _=>rfl⟩
 have hol:olds.length=es.length*i.size:=by rw [k1.1,br h1]
 have hnl:news.length=ys.length*i.size:=by rw [k2.1,br h2]
 have huni:∀e,e∈es++ys→e.ac.length=i.size:=fun e he=>(List.mem_append.1 he).elim (h1 e) (h2 e)
 have hflat:bY S β w.drew ((olds.toArray++news.toArray++Builtin.zeroCells z.cells (grownCap w (es.length+ys.length) cap e-(es.length+ys.length))).toList.take ((es.length+ys.length)*i.size)) (cp (es++ys)):=by
  have:(olds.toArray++news.toArray++Builtin.zeroCells z.cells (grownCap w (es.length+ys.length) cap e-(es.length+ys.length))).toList.take ((es.length+ys.length)*i.size)=olds++news:=by
   simp only [Array.toList_append]
   have hl:(es.length+ys.length)*i.size=(olds++news).length:=by grind
   grind
  rw [this,dx]
  exact (k1.ub k2).bR E0
 obtain ⟨S',β',E,M2,hv⟩:=uc (d:=d) (n:=es.length+ys.length) (cap:=grownCap w (es.length+ys.length) cap e) (sz:=i.size) (es:=es++ys) (t:=e) M' hd (by simp)
  (by simp only [Array.size_append,List.size_toArray,size_zeroCells,hz,hol,hnl,←Nat.add_mul];grind) hge hcm huni hflat
 exact ⟨S',β',E0.ck E,M2,hv⟩
theorem lT {t:TypeId} {d:Nat} {x y:Operand} {X Y:AV} (ho:o.op= .call ⟨.builtin .append,#[x,y],#[t,t]⟩) (M:b7 F S β hp w) (hx:V S β w (a.eval x) X) (hy:V S β w (a.eval y) Y)
  (hr:(fq P d t X Y sc).bL (ae hp)=some (res,rd)) (hc:∀c,c∈res.cs→c.p) (hn:∀id,id∈res.dN→ae hp id=none) (hXl:∀id n,X≠ .aO id n):b9 P F S β hp w a o res:=by
 have exec:∀{v:Value} {w':World},(Builtin.append_ #[t,t] o.type #[a.eval x,a.eval y]).run P w= .ok v w'→(execOp a.eval o).run P w= .ok (.value v) w':=by
  simp_all[execOp,resolve,invoke,builtin]
 unfold fq at hr
 cases hu:P.underlying t with
 |none=>rw [hu] at hr;cases hr
 |some ds=>
  rw [hu] at hr
  cases ds<;>first
   |(cases hr;done)
   |skip
  rename_i e
  simp only at hr
  cases hi:P.info? e with
  |none=>rw [hi] at hr;cases hr
  |some i=>
   cases hz:dw P e with
   |none=>rw [hi,hz] at hr;cases hr
   |some z=>
    rw [hi,hz] at hr
    simp only at hr
    by_cases hg:z.ac.length=i.size∧0<i.size∧¬cx z=true
    ·rw [if_pos hg] at hr
     obtain ⟨g1,g2,g3⟩:=hg
     obtain ⟨i',zv,hi',hzv,hE⟩:=iC (S:=S) (β:=β) (w:=w) hz (by grind)
     rw [hi] at hi';injection hi' with hi';subst hi'
     have hzs:zv.cells.size=i.size:=by have:=hE.1;grind
     have same:∀{X:AV},V S β w (a.eval x) X→(∀v,V S β w v X→∃p n cap,v= .slice p n cap∧n≤cap)→(ed Y fun ys q=>bS X (q.p∧ys=[]) sc.tail).bL (ae hp)=some (res,rd)→b9 P F S β hp w a o res:=by
      intro X hx hform hr
      obtain ⟨ys,q,rd',h1,h2⟩:=fw M hr
      obtain ⟨e1,e2,_,e4⟩:=bQ h1
      obtain ⟨hq,hys⟩:=hc _ (by rw [e4];exact List.mem_singleton.2 rfl)
      subst hys
      obtain ⟨p',c,hvy,_⟩:=h2 _ i.size hy hq (by simp)
      obtain ⟨p,n,cap,hvx,hle⟩:=hform _ hx
      refine aV M (v:=a.eval x) (exec ?_) e2 (by grind)
      rw [hvx,hvy]
      exact ib hu hi o.type p n cap hle p' c
     split at hr
     ·rename_i es c sc'
      refine same hx (fun v hv=> ?_) hr
      cases hv with
      |aF p cap sz b q _ _ U hcap hmax hclip hp' hsz hcc hvv=>grind
     ·rename_i id off len sc'
      refine same hx (fun v hv=> ?_) hr
      cases hv with
      |aw _ _ _ ad bi hb hle ha=>grind
     ·rename_i es sc'
      obtain ⟨ys,q,rd',h1,h2⟩:=fw M hr
      injection h1 with h1;injection h1 with h1 _;subst h1
      obtain ⟨hq,hne,hok,hoke,hby,hmax⟩:=hc _ (List.mem_singleton.2 rfl)
      have hu1:∀e,e∈ys→e.ac.length=i.size:=fun e he=>(hok e he).1
      have hu2:∀e,e∈es→e.ac.length=i.size:=fun e he=>(hoke e he).1
      obtain ⟨p',c,hvy,hnews⟩:=h2 _ i.size hy hq hu1
      obtain ⟨ad,news,rfl,k2,hcn⟩:=hnews hne
      have hnl:news.length=ys.length*i.size:=by rw [k2.1,br hu1]
      have hyl:0<ys.length:=List.length_pos_iff.2 hne
      have hby':(es.length+ys.length)*i.bytes≤140737488355328:=by
       omega
      have hsrc:=fw (res:={v:= .aB,sc:=[]}) (rd:=[]) (k:=fun _ _=> .aR {v:= .aB,sc:=[]}) (y:= .aF es true) M rfl
      obtain ⟨es',q',rd'',_,hsrc⟩:=hsrc
      generalize hvx:a.eval x=vx at hx exec
      cases hx with
      |aF p cap sz b q0 _ _ U hcap hmx hclip hp' hsz hcc hvv=>
       have hcape:=hclip rfl
       subst hcape
       by_cases hes:es=[]
       ·subst hes
        have k1:bY S β w [] (cp []):=⟨rfl,by simp⟩
        obtain ⟨S',β',E,M',hv⟩:=qe (d:=d) (cap:=0) (e:=e) (z:=zv) (i:=i) (es:=[]) (ys:=ys) M (hn d (by simp)) hzs (by simp) hu1 k1 k2 (by omega)
        simp only [List.length_nil,Nat.zero_add,List.nil_append] at E M' hv hby'⊢
        cases p with
        |none=>
         refine bM (exec ?_) E (by grind[bc]) (by omega)
         rw [hvy]
         have:=run_append_nil (P:=P) w t o.type e i zv hu hi hzv ad ys.length c news hnl (fun j v h=>hcn j v h) hyl (by grind[maxLen]) (by omega)
         grind
        |some bp=>
         refine bM (exec ?_) E (by grind[bc]) (by omega)
         rw [hvy]
         have:=run_append_grow (P:=P) w t o.type e i zv hu hi hzv bp 0 0 [] (by simp) (by simp) ad ys.length c news hnl (fun j v h=>hcn j v h) (by omega) (by grind[maxLen])
          (growslice_fits (by omega) (by grind))
         grind
       ·obtain ⟨rfl,hS⟩:=hp' hes
        have hV:V S β w (.slice (some ⟨b,q0,none⟩) es.length es.length) (.aF es true):= .aF _ es.length sz b q0 es true U hcap hmx hclip (fun _=>⟨rfl,hS⟩) hsz hcc hvv
        obtain ⟨es2,q2,rd2,hk2,hsrc2⟩:=fw (res:={v:= .bC es,cs:=[pN True],sc:=[]}) (rd:=[]) (k:=fun l q=> .aR {v:= .bC l,cs:=[q],sc:=[]}) (y:= .aF es true) M rfl
        injection hk2 with hk2;injection hk2 with hk2 _;injection hk2 with hk3 _ _ hk4 _
        injection hk3 with hk3
        subst hk3
        injection hk4 with hk4 _
        obtain ⟨p2,c2,hv2,hn2⟩:=hsrc2 _ i.size hV (by grind) hu2
        obtain ⟨ad2,olds,hp2,k1,hco⟩:=hn2 hes
        injection hv2 with hv2 _ _
        rw [hp2] at hv2
        injection hv2 with hv2
        subst hv2
        obtain ⟨S',β',E,M',hv⟩:=qe (d:=d) (cap:=es2.length) (e:=e) (z:=zv) (i:=i) (es:=es2) (ys:=ys) M (hn d (by simp)) hzs hu2 hu1 k1 k2 hmax
        refine bM (exec ?_) E (by grind[bc]) hv
        rw [hvy]
        exact run_append_grow (P:=P) w t o.type e i zv hu hi hzv ⟨b,q0,none⟩ es2.length es2.length olds (by rw [k1.1,br hu2]) (fun j v h=>hco j v h) ad ys.length c news hnl (fun j v h=>hcn j v h) (by omega) (by grind[maxLen])
         (growslice_fits (by omega) hby')
     ·rename_i id off len s0 sc'
      simp only [Rd.bL] at hr
      cases hl:ae hp id with
      |none=>grind
      |some ob=>
       rw [hl] at hr
       have hob:=M.dg id ob hl
       cases ob with
       |aw sz es=>
        simp only at hr
        split at hr
        ·rename_i r1 l1 hk
         injection hr with hr;injection hr with hr1 hr2
         subst hr1
         obtain ⟨ys,q,rd',h1,h2⟩:=fw M hk
         by_cases hsz:sz=i.size
         ·rw [if_pos hsz] at h1
          injection h1 with h1;injection h1 with h1 _;subst h1
          obtain ⟨hq,hoff,hlen,hok,hne⟩:=hc _ (List.mem_singleton.2 rfl)
          subst hoff;subst hsz
          have hu1:∀e,e∈ys→e.ac.length=i.size:=fun e he=>(hok e he).1
          obtain ⟨p',c,hvy,hnews⟩:=h2 _ i.size hy hq hu1
          obtain ⟨ad,news,rfl,k2,hcn⟩:=hnews hne
          have hnl:news.length=ys.length*i.size:=by rw [k2.1,br hu1]
          have hyl:0<ys.length:=List.length_pos_iff.2 hne
          obtain ⟨bj,q1,q2,q3⟩:=hob
          generalize hvx:a.eval x=vx at hx exec
          cases hx with
          |aw _ _ _ adx bi hb hle ha=>
           rw [hb] at q1;injection q1 with q1;subst q1
           obtain ⟨cur,ty,r1,r2,r3,r4⟩:=q3.xL (M.aX id bi hb).1 M.sub (k:=len) (news:=news) hlen (by grind) k2
           have hcap:es.length≤bi.f5:=by obtain ⟨_,_,_,_,h,_⟩:=q3;omega
           have hadx:adx=⟨bi.bG,0,none⟩:=by grind
           rw [q2] at r3 r4
           obtain ⟨E,M'⟩:=M.cR hb hl (by simp) (d' bi.bG _ rfl) (.aw i.size (es.take len++ys++es.drop (len+ys.length))) ⟨bi,hb,q2,r4⟩ (fun j a b h=>by cases h)
           refine bM (exec ?_) E (by grind[bc]) (.aw id 0 (len+ys.length) ⟨bi.bG,0,none⟩ bi hb (by omega) (fun _=>by simp))
           rw [hvy,hadx]
           exact oO hu hi o.type ty bi.bG len (bi.f5-0) cur r1 ad ys.length c news hnl (fun j v h=>hcn j v h) (k2.vn (lS hok)) (by omega) r3
         ·rw [if_neg hsz] at h1;cases h1
        grind
       |_=>cases hr
     ·rename_i id off len sc'
      simp only [Rd.bL] at hr
      cases hl:ae hp id with
      |none=>grind
      |some ob=>
       rw [hl] at hr
       have hob:=M.dg id ob hl
       cases ob with
       |aw sz es=>
        simp only at hr
        split at hr
        ·rename_i r1 l1 hk
         injection hr with hr;injection hr with hr1 hr2
         subst hr1
         obtain ⟨ys,q,rd',h1,h2⟩:=fw M hk
         by_cases hsz:sz=i.size∧(id<mid∨mid≤d)
         ·rw [if_pos hsz] at h1
          obtain ⟨hsz,hid⟩:=hsz
          injection h1 with h1;injection h1 with h1 _;subst h1
          obtain ⟨hq,hoff,hlen,hok,hoke,hby,hmax⟩:=hc _ (List.mem_singleton.2 rfl)
          subst hoff;subst hlen;subst hsz
          have hu1:∀e,e∈ys→e.ac.length=i.size:=fun e he=>(hok e he).1
          have hu2:∀e,e∈es→e.ac.length=i.size:=fun e he=>(hoke e he).1
          obtain ⟨p',c,hvy,hnews⟩:=h2 _ i.size hy hq hu1
          have hby':(es.length+ys.length)*i.bytes≤140737488355328:=by
           omega
          obtain ⟨bj,q1,q2,q3⟩:=hob
          have hnd:ae hp d=none:=hn d (by simp)
          generalize hvx:a.eval x=vx at hx exec
          cases hx with
          |aw _ _ _ adx bi hb hle ha=>
           rw [hb] at q1;injection q1 with q1;subst q1
           obtain ⟨cur,ty,r1,r2,r3,r4,r5,r6⟩:=q3.y8
           rw [q2] at r2 r5 r6
           rw [Nat.zero_add] at hle
           by_cases hroom:es.length+ys.length≤bi.f5
           ·
            have hnewlist:∃news,bY S β w news (cp ys)∧(Builtin.append_ #[t,t] o.type #[.slice (some adx) es.length (bi.f5-0),a.eval y]).run P w= .ok (.slice (some adx) (es.length+ys.length) (bi.f5-0)) (w.setRow bi.bG (cur.toList.take (es.length*i.size)++news++cur.toList.drop (es.length*i.size+news.length)).toArray):=by
             by_cases hye:ys=[]
             ·subst hye
              refine ⟨[],⟨rfl,by simp⟩,?_⟩
              rw [hvy,List.length_nil,ib hu hi o.type (some adx) es.length (bi.f5-0) (by omega) p' c]
              simp only [Nat.add_zero,List.append_nil,List.length_nil,List.take_append_drop,Array.toArray_toList]
              grind[setRow_self]
             ·obtain ⟨ad,news,rfl,k2,hcn⟩:=hnews hye
              have hnl:news.length=ys.length*i.size:=by rw [k2.1,br hu1]
              refine ⟨news,k2,?_⟩
              have hyl:0<ys.length:=List.length_pos_iff.2 hye
              have hadx:adx=⟨bi.bG,0,none⟩:=by grind
              rw [hvy,hadx]
              exact oO hu hi o.type ty bi.bG es.length (bi.f5-0) cur r1 ad ys.length c news hnl (fun j v h=>hcn j v h) (k2.vn (lS hok)) (by omega)
               (by rw [hnl,r2,←Nat.add_mul];simp_all[Nat.mul_le_mul_right])
            obtain ⟨news,k2,hrun⟩:=hnewlist
            have hnl:news.length=ys.length*i.size:=by rw [k2.1,br hu1]
            have hfit:es.length*i.size+news.length≤cur.size:=by rw [hnl,r2,←Nat.add_mul];simp_all[Nat.mul_le_mul_right]
            have hT:mK bi w (w.setRow bi.bG (cur.toList.take (es.length*i.size)++news++cur.toList.drop (es.length*i.size+news.length)).toArray):=d' bi.bG _ rfl
            have hagr:nI S w (w.setRow bi.bG (cur.toList.take (es.length*i.size)++news++cur.toList.drop (es.length*i.size+news.length)).toArray):=
             fun b hb'=>hT.gD b (M.sub b hb') (fun e=>(M.aX id bi hb).1 (e▸hb'))
            have E0:lg S S β (β.nM d bi) w (w.setRow bi.bG (cur.toList.take (es.length*i.size)++news++cur.toList.drop (es.length*i.size+news.length)).toArray):=⟨fun _ h=>h,bn.dQ (M.ff hnd),hagr⟩
            have hob':HO S (β.nM d bi) (w.setRow bi.bG (cur.toList.take (es.length*i.size)++news++cur.toList.drop (es.length*i.size+news.length)).toArray) d (.aw i.size (es++ys)):=by
             refine ⟨bi,bn.cV _ _ _,q2,HR.pA (setRow_heap w bi.bG cur _ ty (0,0) r1) ?_ (by grind) r4 (fun e he=> ?_) ?_⟩
             ·grind
             ·grind
             ·rw [q2,List.length_append,dx]
              have:((cur.toList.take (es.length*i.size)++news++cur.toList.drop (es.length*i.size+news.length)).toArray.toList.take ((es.length+ys.length)*i.size))=cur.toList.take (es.length*i.size)++news:=by
               have hl2:(es.length+ys.length)*i.size=(cur.toList.take (es.length*i.size)++news).length:=by
                grind
               grind
              rw [this]
              exact (r6.ub k2).bR E0
            obtain ⟨E,M'⟩:=M.IX hid hb hl (by simp) hnd rfl hT (.aw i.size (es++ys)) hob' (fun j a b h=>by cases h)
            refine bM (exec hrun) E (by simpa [bc] using M') ?_
            exact .aw d 0 (es.length+ys.length) adx bi (bn.cV _ _ _) (by omega) ha
           ·
            have hye:ys≠[]:=by rintro rfl;simp at hroom;omega
            obtain ⟨ad,news,rfl,k2,hcn⟩:=hnews hye
            have hnl:news.length=ys.length*i.size:=by rw [k2.1,br hu1]
            have hol:(cur.toList.take (es.length*i.size)).length=es.length*i.size:=by rw [r6.1,br hu2]
            have M1:=M.Fe (id:=id) ⟨_,hl⟩
            have hnd1:ae (ba hp id .aB) d=none:=by
             rw [aq,if_neg]
             ·exact hnd
             ·rintro rfl;rw [hl] at hnd;cases hnd
            obtain ⟨S',β',E,M',hv⟩:=qe (d:=d) (cap:=bi.f5) (e:=e) (z:=zv) (i:=i) (es:=es) (ys:=ys) M1 hnd1 hzs hu2 hu1 r6 k2 hmax
            refine bM (exec ?_) E (by simpa [bc] using M') hv
            rw [hvy,Nat.sub_zero]
            refine run_append_grow (P:=P) w t o.type e i zv hu hi hzv adx es.length bi.f5 _ hol (fun j v h=> ?_) ad ys.length c news hnl (fun j v h=>hcn j v h) (by omega) (by simp only [maxLen] at hmax;omega) (growslice_fits (by omega) hby')
            have hj:j<es.length*i.size:=by rw [←hol];exact (List.getElem?_eq_some_iff.1 h).1
            have hpos:0<es.length:=by
             rcases Nat.eq_zero_or_pos es.length with h0|h0
             ·rw [h0] at hj;simp at hj
             ·exact h0
            have hadx:adx=⟨bi.bG,0,none⟩:=by have:=ha (by omega);simpa using this
            rw [hadx,Addr.add_lit,Nat.zero_add,cK r1]
            rw [List.getElem?_take,if_pos hj,Array.getElem?_toList] at h
            exact h
         ·rw [if_neg hsz] at h1;cases h1
        grind
       |_=>cases hr
     ·exact absurd rfl (hXl _ _)
     ·exact absurd rfl (hXl _ _)
     ·cases hr
    ·rw [if_neg hg] at hr;cases hr
theorem vG {y:AV} {k:List AV→iy→Rd dT} {id sz:Nat} {es:List AV} {ob:Ob} {r:dT} {l:List Nat} (hl:ae hp id=some (.ao sz es)) (hn:Fd id y=true)
  (hk:∀ys q h h',(k ys q).bL h=(k ys q).bL h') (h:(ed y k).bL (ae hp)=some (r,l)):(ed y k).bL (ae (ba hp id ob))=some (r,l):=by
 have go:∀{j:Nat},j≠id→ae (ba hp id ob) j=ae hp j:=fun hj=>by rw [aq,if_neg (Ne.symm hj)]
 cases y with
 |aF es c=>grind[ed]
 |aw j off len=>
  have hj:j≠id:=by
   rintro rfl
   grind[ed,Rd.bL]
  grind[ed,Rd.bL,ae,ba,id]
 |aO j len=>
  have hj:j≠id:=by
   rintro rfl
   grind[Fd,Nat.beq_refl,Bool.not_true]
  grind[ed,Rd.bL,ae,ba,id]
 |_=>cases h
theorem V.qd {β:bn} {w:World} {v:Value} {id n:Nat} (h:V S β w v (.aw id 0 n)) (hn:n≠0):V S β w v (.aO id n):=by
 cases h with
 |aw _ _ _ a bi hb hle ha=>
  rw [Nat.sub_zero]
  exact .ix id n a bi hb (by omega) (by grind) hn
theorem V.Cn {β:bn} {w:World} {v:Value} {id n:Nat} (h:V S β w v (.aO id n)) (hn:n≠0):V S β w v (.aw id 0 n):=by
 generalize hx:AV.aO id n=x at h
 cases h with
 |ft=>grind
 |ix _ _ a bi hb hle ha _=>
  injection hx with h1 h2;subst h1;subst h2
  have:=V.aw (S:=S) (β:=β) (w:=w) id 0 n a bi hb (by omega) (fun _=>by grind)
  omega
 |_=>grind
theorem nR {α:Type} (l:List (Nat×α)) (k:Nat) (x y:α) (j:Nat):ae (ba (ba l k x) k y) j=ae (ba l k y) j:=by
 grind[aq]
theorem AM {α:Type} (l:List (Nat×α)) {k m:Nat} (x y:α) (h:k≠m) (j:Nat):ae (ba (ba l k x) m y) j=ae (ba (ba l m y) k x) j:=by
 rw [aq,aq,aq,aq]
 grind
theorem IZ {h h':List (Nat×Ob)} {k:Nat} {x:Ob} (e:∀j,ae h j=ae h' j) (j:Nat):ae (ba h k x) j=ae (ba h' k x) j:=by
 grind[aq]
theorem sM {t:TypeId} {d:Nat} {x y:Operand} {X Y:AV} (ho:o.op= .call ⟨.builtin .append,#[x,y],#[t,t]⟩) (M:b7 F S β hp w) (hx:V S β w (a.eval x) X) (hy:V S β w (a.eval y) Y)
  (hr:(fq P d t X Y sc).bL (ae hp)=some (res,rd)) (hc:∀c,c∈res.cs→c.p) (hn:∀id,id∈res.dN→ae hp id=none):b9 P F S β hp w a o res:=by
 by_cases hXl:∀id n,X≠ .aO id n
 ·grind[lT]
 obtain ⟨id,hXl⟩:=Classical.not_forall.1 hXl
 obtain ⟨len,hXl⟩:=Classical.not_forall.1 hXl
 have hXl:=Classical.not_not.1 hXl
 subst hXl
 have exec:∀{v:Value} {w':World},(Builtin.append_ #[t,t] o.type #[a.eval x,a.eval y]).run P w= .ok v w'→(execOp a.eval o).run P w= .ok (.value v) w':=by
  simp_all[execOp,resolve,invoke,builtin]
 have hr0:=hr
 unfold fq at hr
 cases hu:P.underlying t with
 |none=>rw [hu] at hr;cases hr
 |some ds=>
  rw [hu] at hr
  cases ds<;>first
   |(cases hr;done)
   |skip
  rename_i e
  simp only at hr
  cases hi:P.info? e with
  |none=>rw [hi] at hr;cases hr
  |some i=>
   cases hz:dw P e with
   |none=>rw [hi,hz] at hr;cases hr
   |some z=>
    rw [hi,hz] at hr
    simp only at hr
    by_cases hg:z.ac.length=i.size∧0<i.size∧¬cx z=true
    ·rw [if_pos hg] at hr
     cases sc with
     |nil=>cases hr
     |cons dd sc'=>
      cases dd with
      |is b=>
       cases b with
       |false=>
        simp only at hr
        obtain ⟨ys,q,rd',h1,h2⟩:=fw M hr
        obtain ⟨e1,e2,_,e4⟩:=bQ h1
        obtain ⟨hq,hys⟩:=hc _ (by rw [e4];exact List.mem_singleton.2 rfl)
        subst hys
        obtain ⟨p',c,hvy,_⟩:=h2 _ i.size hy hq (by simp)
        generalize hvx:a.eval x=vx at hx exec
        have hform:∃p n cap,vx= .slice p n cap∧n≤cap:=by
         cases hx with
         |ft=>grind
         |ix _ _ ad bi hb hle ha hne=>grind
        obtain ⟨p,n,cap,rfl,hle⟩:=hform
        refine bM (exec ?_) (lg.bb _ _ _) (by rw [e2];exact M) (by rw [e1];omega)
        rw [hvy]
        exact ib hu hi o.type p n cap hle p' c
       |true=>
        simp only [Rd.bL] at hr
        cases hl:ae hp id with
        |none=>grind
        |some ob=>
         rw [hl] at hr
         have hob:=M.dg id ob hl
         cases ob with
         |ao sz es=>
          simp only at hr
          split at hr
          ·rename_i r1 l1 hk
           injection hr with hr;injection hr with hr1 hr2
           subst hr1
           obtain ⟨ys,q,rd',h1,hsw,h2⟩:=sK M hk
           by_cases hsz:sz=i.size∧(id<mid∨mid≤d)∧Fd id Y=true
           ·rw [if_pos hsz] at h1
            obtain ⟨hsz,hid,hnl⟩:=hsz
            injection h1 with h1;injection h1 with h1 _;subst h1
            obtain ⟨hq,hlen,hok,hoke,hby,hmax⟩:=hc _ (List.mem_singleton.2 rfl)
            subst hlen;subst hsz
            have hnd:ae hp d=none:=hn d (by simp)
            have hne:id≠d:=by grind
            have hu1:∀e,e∈ys→e.ac.length=i.size:=fun e he=>(hok e he).1
            have hdd:∀{ob:Ob},ae (ba hp id ob) d=none:=by simp_all[aq,if_neg]
            by_cases hes:es=[]
            ·subst hes
             have hnil:a.eval x= .slice none 0 0:=by
              generalize a.eval x=vx at hx
              cases hx with
              |ft=>rfl
              |ix _ _ _ _ _ _ _ h0=>grind
             by_cases hye:ys=[]
             ·subst hye
              obtain ⟨p',c,hvy,_⟩:=h2 _ i.size hy hq (by simp)
              have M1:=(M.Fe (id:=id) ⟨_,hl⟩).Cc (o:= .ao i.size []) hdd (.inl rfl) (fun j sz es h=>by cases h)
              refine bM (v:= .slice none 0 0) (exec ?_) (lg.bb _ _ _) M1 (.ft d)
              rw [hnil,hvy]
              exact ib hu hi o.type none 0 0 (Nat.le_refl 0) p' c
             ·obtain ⟨R,hR⟩:∃R:List AV→iy→dT,R=fun ys q=>{v:= .aw d 0 (([]:List AV).length+ys.length),eH:=[(d,.aw i.size ([]++ys))],dN:=[d],cs:=[pN (q.p∧ys≠[]∧(∀e,e∈ys→c8 i.size e)∧(∀e,e∈([]:List AV)→c8 i.size e)∧((([]:List AV).length+ys.length:Nat):Int)*i.bytes≤140737488355328∧([]:List AV).length+ys.length≤maxLen)],sc:=sc'}:=⟨_,rfl⟩
              obtain ⟨m,hm⟩:=hsw (fun ys q=> .aR (R ys q)) _ _ rfl
              have hV:V S β w (a.eval x) (.aF [] true):=by rw [hnil];exact V.b8 .ab
              have hr1:(fq P d t (.aF [] true) Y (.is true::sc')).bL (ae hp)=some (R ys q,m):=by
               simp_all[fq,if_pos]
              subst hR
              have hOK:=lT ho M hV hy hr1 (fun c hc'=>by grind) (fun j hj=>by grind) (fun _ _ h=>by grind)
              intro K Q h
              refine hOK K Q fun v w' S' β' E M' hv=>h v w' S' β' E ?_ (hv.qd (by grind))
              have M1:b7 F S' β' (ba hp d (.aw i.size ([]++ys))) w':=M'
              have h1:=M1.dg d (.aw i.size ([]++ys)) (by rw [aq,if_pos rfl])
              have M2:=(M1.nN (id:=d) (x:= .aw i.size ([]++ys)) (o:= .ao i.size ([]++ys)) (by rw [aq,if_pos rfl]) (by simp) (.inr h1) (fun j sz es h=>by cases h)).Fe (id:=id) ⟨_,by rw [aq,if_neg (Ne.symm hne),aq,if_neg (Ne.symm hne)];omega⟩
              exact M2.hJ fun k=>(IZ (nR hp d _ _) k).trans (AM hp _ _ (Ne.symm hne) k)
            ·have hlen0:es.length≠0:=fun h=>hes (List.eq_nil_of_length_eq_zero h)
             have hrow:HO S β w id (.aw i.size es):=hob.resolve_left hes
             have M1:=M.nN hl (by simp) hrow (fun j sz es h=>by cases h)
             obtain ⟨R,hR⟩:∃R:List AV→iy→dT,R=fun ys q=>{v:= .aw d 0 (es.length+ys.length),eH:=[(id,.aB),(d,.aw i.size (es++ys))],dN:=[d],cs:=[pN (q.p∧(0:Nat)=0∧es.length=es.length∧(∀e,e∈ys→c8 i.size e)∧(∀e,e∈es→c8 i.size e)∧((es.length+ys.length:Nat):Int)*i.bytes≤140737488355328∧es.length+ys.length≤maxLen)],sc:=sc'}:=⟨_,rfl⟩
             obtain ⟨m,hm⟩:=hsw (fun ys q=>if i.size=i.size∧(id<mid∨mid≤d) then .aR (R ys q) else .aY) (R ys q) [] (by rw [if_pos ⟨rfl,hid⟩];rfl)
             have hm:=vG (ob:= .aw i.size es) hl hnl (fun ys q h h'=>by split<;>rfl) hm
             have hlk:ae (ba hp id (.aw i.size es)) id=some (.aw i.size es):=by rw [aq,if_pos rfl]
             have hr1:(fq P d t (.aw id 0 es.length) Y (.is true::sc')).bL (ae (ba hp id (.aw i.size es)))=some (R ys q,id::m):=by
              simp_all[fq,if_pos,Rd.bL,true_and]
             subst hR
             have hOK:=lT ho M1 (hx.Cn hlen0) hy hr1 (fun c hc'=>by grind) (fun j hj=>by grind) (fun _ _ h=>by grind)
             intro K Q h
             refine hOK K Q fun v w' S' β' E M' hv=>h v w' S' β' E ?_ (hv.qd (by omega))
             have M2:b7 F S' β' (ba (ba (ba hp id (.aw i.size es)) id .aB) d (.aw i.size (es++ys))) w':=M'
             have h1:=M2.dg d (.aw i.size (es++ys)) (by rw [aq,if_pos rfl])
             have M3:=M2.nN (id:=d) (x:= .aw i.size (es++ys)) (o:= .ao i.size (es++ys)) (by rw [aq,if_pos rfl]) (by simp) (.inr h1) (fun j sz es h=>by cases h)
             exact M3.hJ fun k=>(nR _ d _ _ k).trans (IZ (nR hp id _ _) k)
           ·rw [if_neg hsz] at h1;cases h1
          grind
         |_=>cases hr
      |_=>cases hr
    ·rw [if_neg hg] at hr;cases hr
end
end
end Go.Ped
