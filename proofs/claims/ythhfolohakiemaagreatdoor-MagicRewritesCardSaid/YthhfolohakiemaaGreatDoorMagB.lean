/- What the one operation of the program's code gives is reckoned without addresses, and the reckoning is right. -/
import Derived.Test.YthhfolohakiemaaGreatDoorMagA
set_option linter.all false
namespace Go.Ped
open Go.RowKit
section
section
variable {P:Program} {F:Fr} {S:df} {β:bn} {hp:List (Nat×Ob)} {w:World} {a:Act} {o:Oper} {res:dT} {rd:List Nat} {sc:List cv}
def b9 (P:Program) (F:Fr) (S:df) (β:bn) (hp:List (Nat×Ob)) (w:World) (a:Act) (o:Oper) (res:dT):Prop:=
 ∀(K:Act→World→Prop) (Q:Exit→Act→World→Prop),
  (∀v w' S' β',lg S S' β β' w w'→b7 F S' β' (bc hp res.eH) w'→V S' β' w' v res.v→K (a.put o.dst v) w')→o.upon P a K Q ((execOp a.eval o).run P w)
theorem bM {v:Value} {w':World} {S':df} {β':bn} (hr:(execOp a.eval o).run P w= .ok (.value v) w') (E:lg S S' β β' w w') (M:b7 F S' β' (bc hp res.eH) w') (hv:V S' β' w' v res.v):
  b9 P F S β hp w a o res:=by
 intro K Q h
 rw [hr]
 exact h v w' S' β' E M hv
theorem pz {w':World} {S':df} {β':bn} (hr:(execOp a.eval o).run P w= .ok .skip w') (E:lg S S' β β' w w') (M:b7 F S' β' (bc hp res.eH) w') (hv:res.v= .aB):
  b9 P F S β hp w a o res:=by
 intro K Q h
 rw [hr]
 exact h undef w' S' β' E M (by rw [hv];exact .aB _)
theorem aV {v:Value} (M:b7 F S β hp w) (hr:(execOp a.eval o).run P w= .ok (.value v) w) (hu:res.eH=[]) (hv:V S β w v res.v):b9 P F S β hp w a o res:=
 bM hr (lg.bb _ _ _) (by rw [hu];exact M) hv
theorem bB {x:AV} (h:(val x sc).bL (ae hp)=some (res,rd)):res.v=x∧res.eH=[]∧res.dN=[]∧res.cs=[]:=by
 injection h with h;grind
theorem bQ {x:AV} {c:Prop} [vo c] (h:(bS x c sc).bL (ae hp)=some (res,rd)):res.v=x∧res.eH=[]∧res.dN=[]∧res.cs=[pN c]:=by
 injection h with h;grind
theorem gt {b:Bool} (h:(g9 b sc).bL (ae hp)=some (res,rd)) (hc:∀c,c∈res.cs→c.p):res.v= .ak b∧res.eH=[]:=by
 unfold g9 at h
 split at h
 ·obtain ⟨h1,h2,_,h4⟩:=bQ h
  simp_all
 ·grind[bB]
 ·cases h
theorem V.b8 {v:Value} {x:AV} (h:V S β w v x):V S β w v (Ped.b8 x):=by
 cases h with
 |ab=>exact .aF none 0 0 0 0 [] true (fun _ _=>undef) (by simp) (by simp) (fun _=>rfl) (fun h=>absurd rfl h) (by simp) (by simp) (by simp)
 |aP k n=>exact .aP k n
 |ak b=>exact .ak b
 |J s=>exact .J s
 |al vs cs hl h=>exact .al vs cs hl h
 |bC vs cs hl h=>exact .bC vs cs hl h
 |aF p cap sz b o es clip U hcap hmax hclip hp hsz hc hv=>exact .aF p cap sz b o es clip U hcap hmax hclip hp hsz hc hv
 |aw id off len a bi hb hle ha=>exact .aw id off len a bi hb hle ha
 |ft id=>exact .ft id
 |ix id len a bi hb hle ha hn=>exact .ix id len a bi hb hle ha hn
 |aE b o cs U hb hc hv=>exact .aE b o cs U hb hc hv
 |aA id k off bi hb=>exact .aA id k off bi hb
 |eK=>exact .eK
 |aI id bi hb=>exact .aI id bi hb
 |bH r es cl ks vs hb hr hk hl hkv hvv=>exact .bH r es cl ks vs hb hr hk hl hkv hvv
 |bh=>exact .bh
 |bZ f fs gs first cap hf hg hfv hgv=>exact .bZ f fs gs first cap hf hg hfv hgv
 |eU=>exact .eU
 |bu t v x h=>exact .bu t v x h
 |eV=>exact .eV
 |aX p cap sz es=>exact .aX p cap sz es
 |aQ cap sz b o es xs U hcap hmax hb hsz hc hv=>exact .aQ cap sz b o es xs U hcap hmax hb hsz hc hv
 |mB a cap hm=>exact .aF (some a) cap 0 0 0 [] false (fun _ _=>undef) (by simp) hm (fun h=>by grind) (fun h=>absurd rfl h) (by simp) (by simp) (by simp)
 |aB v=>exact .aB v
theorem V.xz {v:Value} {x:AV} (h:V S β w v x):V S β w v (Ped.xz x):=by
 cases x with
 |aQ es xs=>exact h.IW
 |_=>exact h
theorem mL (v:Value):V S β w v (pQ v):=by
 unfold pQ
 split
 ·exact .aP _ _
 ·exact .ak _
 ·exact .J _
 ·exact .eK
 ·exact .ab
 ·exact .bh
 ·exact .eU
 ·exact .eV
 ·exact .aB _
theorem mM (v:Value):V S β w v (tW v):=by
 unfold tW
 split
 ·rename_i cs
  have:V S β w (.agg cs.toList.toArray) (.al (cs.toList.map pQ)):=by
   refine .al _ _ (by simp) fun i v c h1 h2=> ?_
   grind[mL]
  omega
 simp[mL]
theorem aD {n:Nat} {env:List (Nat×AV)} (E:sx S β w n env a) (x:Operand):V S β w (a.eval x) (a7 env x):=by
 cases x with
 |tmp t=>exact E.2.2 t
 |const v=>exact mM v
 |global g=>exact .aB _
 |func f=>exact .bZ f [] [] [] [] rfl rfl (by simp) (by simp)
theorem cW {t:TypeId} {n:Nat} (h:cJ P t=some n):(sizeOf t).run P w= .ok n w:=by
 unfold cJ at h
 obtain ⟨i,hi,rfl⟩:=Option.map_eq_some_iff.1 h
 simp_all[sizeOf,typeInfo]
theorem fg {t:TypeId} {b:Bool} (h:ik P t=some b):(isAgg t).run P w= .ok b w:=by
 unfold ik at h
 cases hu:P.underlying t with
 |none=>grind
 |some d=>
  rw [hu] at h
  cases d<;>simp at h<;>subst h<;>simp [isAgg,run_underlying hu]
theorem ka (b o:Nat) (cs:List Value) (h:∀(j:Nat) v,cs[j]? =some v→w.cell? ⟨b,o+j,none⟩=some v):(loadCells ⟨b,o,none⟩ cs.length).run P w= .ok cs.toArray w:=by
 grind[run_loadCells_list,Addr.add_lit]
theorem lQ {t:TypeId} {cs:List AV} {x:AV} (hr:gg P t cs=some x) (b o:Nat) (hc:∀(j:Nat) c,cs[j]? =some c→∃u,w.cell? ⟨b,o+j,none⟩=some u∧V S β w u c):
  ∃v,(loadVar t ⟨b,o,none⟩).run P w= .ok v w∧V S β w v x:=by
 unfold gg at hr
 cases ha:ik P t with
 |none=>grind
 |some g=>
  cases hs:cJ P t with
  |none=>grind
  |some n=>
   rw [ha,hs] at hr
   cases g with
   |true=>
    simp only at hr
    split at hr
    ·rename_i hle
     injection hr with hr
     subst hr
     have hex:∃vs:List Value,vs.length=n∧∀(j:Nat) v,vs[j]? =some v→w.cell? ⟨b,o+j,none⟩=some v∧∀c,cs[j]? =some c→V S β w v c:=by
      have:∀m,m≤n→∃vs:List Value,vs.length=m∧∀(j:Nat) v,vs[j]? =some v→w.cell? ⟨b,o+j,none⟩=some v∧∀c,cs[j]? =some c→V S β w v c:=by
       intro m
       induction m with
       |zero=>simp
       |succ m ih=>
        intro hm
        obtain ⟨vs,hl,hv⟩:=ih (by omega)
        have hlt:m<cs.length:=by omega
        obtain ⟨u,hu,hV⟩:=hc m _ (List.getElem?_eq_getElem hlt)
        refine ⟨vs++[u],by grind,fun j v hj=> ?_⟩
        grind
      simp_all
     obtain ⟨vs,hl,hv⟩:=hex
     refine ⟨.agg vs.toArray,?_,.al vs _ (by grind) fun i v c h1 h2=> ?_⟩
     ·have h1:=ka (P:=P) (w:=w) b o vs (fun j v hj=>(hv j v hj).1)
      simp_all[loadVar,fg,cW]
     grind
    grind
   |false=>
    simp only at hr
    have h0:cs[0]? =some x:=by grind[List.head?_eq_getElem?]
    obtain ⟨u,hu,hV⟩:=hc 0 x h0
    simp_all[Nat.add_zero,loadVar,fg]
theorem cK {w:World} {g:Nat} {cur:Array Value} {t:TypeId} {fr:Nat×Nat} (h:w.heap[g]? =some (.cells cur t fr)) (j:Nat):w.cell? ⟨g,j,none⟩=cur[j]? :=by
 grind[cell_of_row]
theorem HR.N5 {bi:Bl} {es:List AV} (h:HR S β w bi es) {k:Nat} {e:AV} (he:es[k]? =some e) (off:Nat):
  ∀(j:Nat) c,(e.ac.drop off)[j]? =some c→∃u,w.cell? ⟨bi.bG,k*bi.sz+off+j,none⟩=some u∧V S β w u c:=by
 obtain ⟨cur,t,h1,h2,h3,h4,h5,h6⟩:=h
 grind[cK]
theorem Ff {t:TypeId} {x:Operand} {X:AV} (ho:o.op= .load t x) (M:b7 F S β hp w) (hx:V S β w (a.eval x) X) (hr:(yX P t X sc).bL (ae hp)=some (res,rd)) (hc:∀c,c∈res.cs→c.p):
  b9 P F S β hp w a o res:=by
 have fin:∀{b off:Nat} {cs:List AV} {y:AV},a.eval x= .pointer (some ⟨b,off,none⟩)→gg P t cs=some y→(∀(j:Nat) c,cs[j]? =some c→∃u,w.cell? ⟨b,off+j,none⟩=some u∧V S β w u c)→
   res.v=y→res.eH=[]→b9 P F S β hp w a o res:=by
  intro b off cs y hp' hy hcells hv hu
  obtain ⟨v,h1,h2⟩:=lQ (P:=P) hy b off hcells
  simp_all[aV,execOp,Instr.loadAt,Instr.sureAddr]
 cases X with
 |aE cs=>
  simp only [yX] at hr
  cases hq:gg P t cs with
  |none=>rw [hq] at hr;cases hr
  |some y=>
   rw [hq] at hr
   obtain ⟨h1,h2,_,_⟩:=bB hr
   generalize hv:a.eval x=v0 at hx
   cases hx with
   |aE b o' _ U hS hcc hvv=>exact fin hv hq (fun j c hj=>⟨U j,hcc j c hj,(hvv j c hj).up⟩) h1 h2
 |aA id k off=>
  simp only [yX] at hr
  generalize hv:a.eval x=v0 at hx
  cases hx with
  |aA _ _ _ bi hb=>
   simp only [Rd.bL] at hr
   cases hl:ae hp id with
   |none=>grind
   |some ob=>
    have hob:=M.dg id ob hl
    rw [hl] at hr
    cases ob with
    |an cs=>
     simp only at hr
     by_cases hk:k=0
     ·rw [if_pos hk] at hr
      cases hq:gg P t (cs.drop off) with
      |none=>rw [hq] at hr;cases hr
      |some y=>
       rw [hq] at hr
       simp only [val,Rd.bL] at hr
       injection hr with hr;injection hr with hr _;subst hr
       obtain ⟨bj,e1,e2,e3⟩:=hob
       rw [hb] at e1;injection e1 with e1;subst e1
       have:=e3.N5 (k:=0) (e:= .al cs) rfl off
       subst hk
       simp only [Nat.zero_mul,Nat.zero_add] at hv this
       exact fin hv hq this rfl rfl
     ·rw [if_neg hk] at hr;cases hr
    |aw sz es=>
     simp only at hr
     cases sc with
     |nil=>cases hr
     |cons dd sc''=>
      cases dd with
      |aA e=>
       simp only at hr
       cases hq:gg P t (e.ac.drop off) with
       |none=>rw [hq] at hr;cases hr
       |some y=>
        rw [hq] at hr
        simp only [bS,Rd.bL] at hr
        injection hr with hr;injection hr with hr _;subst hr
        obtain ⟨bj,e1,e2,e3⟩:=hob
        rw [hb] at e1;injection e1 with e1;subst e1
        have hek:es[k]? =some e:=hc _ (List.mem_singleton.2 rfl)
        exact fin hv hq (e3.N5 hek off) rfl rfl
      |_=>cases hr
    |ao sz es=>
     simp only at hr
     cases sc with
     |nil=>cases hr
     |cons dd sc''=>
      cases dd with
      |aA e=>
       simp only at hr
       cases hq:gg P t (e.ac.drop off) with
       |none=>rw [hq] at hr;cases hr
       |some y=>
        rw [hq] at hr
        simp only [bS,Rd.bL] at hr
        injection hr with hr;injection hr with hr _;subst hr
        have hek:es[k]? =some e:=hc _ (List.mem_singleton.2 rfl)
        rcases hob with h0|⟨bj,e1,e2,e3⟩
        ·grind
        rw [hb] at e1;injection e1 with e1;subst e1
        exact fin hv hq (e3.N5 hek off) rfl rfl
      |_=>cases hr
    |aI ks vs=>cases hr
    |iw o=>cases hr
    |aB=>cases hr
 |_=>cases hr
end
end
section
section
variable {P:Program} {F:Fr} {S:df} {β:bn} {hp:List (Nat×Ob)} {w:World} {a:Act} {o:Oper} {res:dT} {rd:List Nat} {sc:List cv}
theorem yZ {x:Operand} {X:AV} (ho:o.op= .move x∨o.op= .assign x) (M:b7 F S β hp w) (hx:V S β w (a.eval x) X) (hr:(val X sc).bL (ae hp)=some (res,rd)):b9 P F S β hp w a o res:=by
 obtain ⟨h1,h2,_,_⟩:=bB hr
 refine aV M (v:=a.eval x) ?_ h2 (by grind)
 rcases ho with ho|ho<;>simp [execOp,ho]
theorem Fh {c x y:Operand} {b:Bool} {X Y:AV} (ho:o.op= .pick c x y) (M:b7 F S β hp w) (hc:V S β w (a.eval c) (.ak b)) (hx:V S β w (a.eval x) X) (hy:V S β w (a.eval y) Y)
  (hr:(val (sB b X Y) sc).bL (ae hp)=some (res,rd)):b9 P F S β hp w a o res:=by
 obtain ⟨h1,h2,_,_⟩:=bB hr
 generalize hv:a.eval c=v at hc
 cases hc with
 |ak b=>
  refine aV M (v:=if b then a.eval x else a.eval y) ?_ h2 ?_
  ·simp_all[execOp,asBool]
  ·rw [h1]
   cases b
   ·rw [show sB false X Y=Y by unfold sB;grind];grind
   ·rw [show sB true X Y=X by unfold sB;grind];grind
theorem pS {f:Field} {n:Nat} (h:cJ P f.type=some (n+1)) (b off:Nat):(fieldPlace ⟨b,off,none⟩ f).run P w= .ok ⟨b,off+f.offset,none⟩ w:=by
 simp [fieldPlace,cW h,Addr.add_lit]
theorem t8 {s:TypeId} {x:Operand} {f:Nat} {X:AV} (ho:o.op= .fieldAddr s x f) (M:b7 F S β hp w) (hx:V S β w (a.eval x) X) (hr:(lK P s f X sc).bL (ae hp)=some (res,rd)):
  b9 P F S β hp w a o res:=by
 unfold lK at hr
 cases hoff:tZ P s f with
 |none=>rw [hoff] at hr;cases hr
 |some off=>
  rw [hoff] at hr
  have hplace:∀b q,(Instr.fieldAt s (.pointer (some ⟨b,q,none⟩)) f).run P w= .ok (.pointer (some ⟨b,q+off,none⟩)) w:=by
   intro b q
   unfold tZ at hoff
   cases hu:P.underlying s with
   |none=>grind
   |some d=>
    rw [hu] at hoff
    cases d<;>first
     |(cases hoff;done)
     |skip
    rename_i fields
    simp only at hoff
    cases hf:fields[f]? with
    |none=>grind
    |some g=>
     rw [hf] at hoff
     simp only at hoff
     cases hs:cJ P g.type with
     |none=>grind
     |some m=>
      rw [hs] at hoff
      cases m with
      |zero=>grind
      |succ m=>
       simp_all[Instr.fieldAt,run_underlying,Instr.sureAddr,pS]
  cases X with
  |aA id k q=>
   obtain ⟨h1,h2,_,_⟩:=bB hr
   generalize hv:a.eval x=v at hx
   cases hx with
   |aA _ _ _ bi hb=>
    refine aV M (v:= .pointer (some ⟨bi.bG,k*bi.sz+q+off,none⟩)) ?_ h2 ?_
    ·simp_all[execOp]
    ·rw [h1,Nat.add_assoc];exact .aA id k (q+off) bi hb
  |aE cs=>
   obtain ⟨h1,h2,_,_⟩:=bB hr
   generalize hv:a.eval x=v at hx
   cases hx with
   |aE b q _ U hS hcc hvv=>
    refine aV M (v:= .pointer (some ⟨b,q+off,none⟩)) ?_ h2 ?_
    ·simp_all[execOp]
    ·rw [h1]
     refine .aE b (q+off) _ (fun j=>U (off+j)) hS (fun j c hj=> ?_) (fun j c hj=> ?_)
     all_goals grind
  |_=>cases hr
theorem ua {t:TypeId} {x i:Operand} {X:AV} {k:IntKind} {n:Int} (ho:o.op= .indexAddr t x i) (M:b7 F S β hp w) (hx:V S β w (a.eval x) X) (hi:V S β w (a.eval i) (.aP k n))
  (hr:(lL P t X n sc).bL (ae hp)=some (res,rd)) (hc:∀c,c∈res.cs→c.p):b9 P F S β hp w a o res:=by
 unfold lL at hr
 generalize hvi:a.eval i=vi at hi
 cases hi
 cases he:mH P t with
 |none=>rw [he] at hr;cases hr
 |some es0=>
  obtain ⟨e,size⟩:=es0
  rw [he] at hr
  simp only at hr
  have hel:P.underlying t=some (.slice e)∧cJ P e=some size:=by
   unfold mH at he
   cases hu:P.underlying t with
   |none=>grind
   |some d=>
    rw [hu] at he
    cases d<;>first
     |(cases he;done)
     |skip
    rename_i e'
    simp only at he
    obtain ⟨m,hm,hq⟩:=Option.map_eq_some_iff.1 he
    grind
  obtain ⟨hu,hs⟩:=hel
  have hplace:∀(b q len cap:Nat),0≤n∧n<len→(Instr.indexAt t (.slice (some ⟨b,q,none⟩) len cap) (.int k n)).run P w= .ok (.pointer (some ⟨b,q+n.toNat*size,none⟩)) w:=by
   intro b q len cap h
   simp [Instr.indexAt,asIntOf,run_underlying hu,cW hs,Addr.add_lit,h]
  cases X with
  |aF es clip=>
   cases sc with
   |nil=>cases hr
   |cons dd sc'=>
    cases dd with
    |aA e1=>
     simp only at hr
     by_cases hsz1:e1.ac.length=size
     ·rw [if_pos hsz1] at hr
      obtain ⟨h1,h2,_,h4⟩:=bQ hr
      obtain ⟨hn,hget⟩:=hc _ (by rw [h4];exact List.mem_singleton.2 rfl)
      generalize hv:a.eval x=v at hx
      cases hx with
      |aF p cap sz b q _ _ U hcap hmax hclip hp' hsz hcc hvv=>
       have hne:es≠[]:=by grind
       obtain ⟨rfl,hS⟩:=hp' hne
       have hlt:n.toNat<es.length:=(List.getElem?_eq_some_iff.1 hget).1
       have hsz2:sz=size:=by grind
       subst hsz2
       refine aV M (v:= .pointer (some ⟨b,q+n.toNat*sz,none⟩)) ?_ h2 ?_
       ·simp [execOp,ho,hv,hvi,hplace b q es.length cap ⟨hn,by omega⟩]
       ·rw [h1]
        exact .aE b _ _ (fun j=>U n.toNat j) hS (fun j c hj=>hcc _ _ _ _ hget hj) (fun j c hj=>hvv _ _ _ _ hget hj)
     ·rw [if_neg hsz1] at hr;cases hr
    |_=>cases hr
  |aw id off len=>
   simp only [Rd.bL] at hr
   cases hl:ae hp id with
   |none=>grind
   |some ob=>
    rw [hl] at hr
    have hob:=M.dg id ob hl
    cases ob with
    |aw sz es=>
     simp only at hr
     by_cases hsz:sz=size
     ·rw [if_pos hsz] at hr
      simp only [bS,Rd.bL] at hr
      injection hr with hr;injection hr with hr _;subst hr
      obtain ⟨hn,hlt⟩:=hc _ (List.mem_singleton.2 rfl)
      generalize hv:a.eval x=v at hx
      cases hx with
      |aw _ _ _ ad bi hb hle ha=>
       obtain ⟨bj,e1,e2,e3⟩:=hob
       rw [hb] at e1;injection e1 with e1;subst e1
       have had:=ha (by omega)
       subst had
       refine aV M (v:= .pointer (some ⟨bi.bG,off*bi.sz+n.toNat*size,none⟩)) ?_ rfl ?_
       ·simp_all[execOp]
       ·rw [←hsz,←e2,←Nat.add_mul]
        exact .aA id (off+n.toNat) 0 bi hb
     ·rw [if_neg hsz] at hr;cases hr
    |_=>cases hr
  |aO id len=>
   simp only [Rd.bL] at hr
   cases hl:ae hp id with
   |none=>grind
   |some ob=>
    rw [hl] at hr
    have hob:=M.dg id ob hl
    cases ob with
    |ao sz es=>
     simp only at hr
     by_cases hsz:sz=size
     ·rw [if_pos hsz] at hr
      simp only [bS,Rd.bL] at hr
      injection hr with hr;injection hr with hr _;subst hr
      obtain ⟨hn,hlt,hle2⟩:=hc _ (List.mem_singleton.2 rfl)
      generalize hv:a.eval x=v at hx
      cases hx with
      |ft=>omega
      |ix _ _ ad bi hb hle ha hne=>
       have e2:bi.sz=sz:=by
        rcases hob with h0|⟨bj,e1,e2,e3⟩
        all_goals grind
       subst ha
       refine aV M (v:= .pointer (some ⟨bi.bG,0+n.toNat*size,none⟩)) ?_ rfl ?_
       ·simp_all[execOp]
       ·rw [←hsz,←e2,Nat.zero_add]
        exact .aA id n.toNat 0 bi hb
     ·rw [if_neg hsz] at hr;cases hr
    |_=>cases hr
  |_=>cases hr
theorem Ce {t:TypeId} {x i:Operand} {X:AV} {k:IntKind} {n:Int} (ho:o.op= .index t x i) (M:b7 F S β hp w) (hx:V S β w (a.eval x) X) (hi:V S β w (a.eval i) (.aP k n))
  (hr:(xr P t X n sc).bL (ae hp)=some (res,rd)) (hc:∀c,c∈res.cs→c.p):b9 P F S β hp w a o res:=by
 unfold xr at hr
 generalize hvi:a.eval i=vi at hi
 cases hi
 split at hr
 ·rename_i s hu
  split at hr
  ·rename_i m sc'
   obtain ⟨h1,h2,_,h4⟩:=bQ hr
   obtain ⟨hn,b,hb,hm⟩:=hc _ (by rw [h4];exact List.mem_singleton.2 rfl)
   generalize hv:a.eval x=v at hx
   cases hx with
   |J s=>
    have hlt:n.toNat<s.data.toList.length:=(List.getElem?_eq_some_iff.1 hb).1
    have hlt':n.toNat<s.size:=by simp_all
    have hget:s[n.toNat]? =some b:=by
     rw [ByteArray.getElem?_lt' s _ hlt']
     have:=(List.getElem?_eq_some_iff.1 hb).2
     rw [←this];rfl
    refine aV M (v:= .int .u8 m) ?_ h2 (by rw [h1];exact .aP _ _)
    simp_all[execOp,Instr.index,asIntOf,run_underlying]
  ·cases hr
 ·cases hr
theorem vA (x y:ByteArray):(x.toList==y.toList)=decide (x=y):=by
 rw [Bool.eq_iff_iff,beq_iff_eq,decide_eq_true_iff]
 constructor
 ·intro h
  rw [ByteArray.toList_eq,ByteArray.toList_eq] at h
  cases x;simp_all
 grind
theorem Cd {op:BinOp} {t ty:TypeId} {x y:Operand} {X Y:AV} (ho:o.op= .binOp op t x y ty) (M:b7 F S β hp w) (hx:V S β w (a.eval x) X) (hy:V S β w (a.eval y) Y)
  (hr:(tU P op t X Y sc).bL (ae hp)=some (res,rd)) (hc:∀c,c∈res.cs→c.p):b9 P F S β hp w a o res:=by
 unfold tU at hr
 split at hr
 ·rename_i k p k' q
  by_cases hk:k=k'
  ·rw [if_pos hk] at hr
   subst hk
   generalize hvx:a.eval x=vx at hx
   generalize hvy:a.eval y=vy at hy
   cases hx;cases hy
   have arith:∀m:Int,(pO k m sc).bL (ae hp)=some (res,rd)→(binOp op t (.int k p) (.int k q)).run P w= .ok (.int k (k.wrap m)) w→b9 P F S β hp w a o res:=by
    intro m h1 h2
    obtain ⟨e1,e2,_,e4⟩:=bQ h1
    have hw:=hc _ (by rw [e4];exact List.mem_singleton.2 rfl)
    simp only [] at hw
    refine aV M (v:= .int k m) ?_ e2 (by rw [e1];exact .aP _ _)
    simp [execOp,ho,hvx,hvy,eqGuard_at_int,h2,hw]
   have cmp:∀c:Bool,(g9 c sc).bL (ae hp)=some (res,rd)→(binOp op t (.int k p) (.int k q)).run P w= .ok (.bool c) w→b9 P F S β hp w a o res:=by
    intro c h1 h2
    obtain ⟨e1,e2⟩:=gt h1 hc
    refine aV M (v:= .bool c) ?_ e2 (by rw [e1];exact .ak _)
    simp [execOp,ho,hvx,hvy,eqGuard_at_int,h2]
   have bits:∀m:Int,(val (.aP k m) sc).bL (ae hp)=some (res,rd)→(binOp op t (.int k p) (.int k q)).run P w= .ok (.int k m) w→b9 P F S β hp w a o res:=by
    intro m h1 h2
    obtain ⟨e1,e2,_,_⟩:=bB h1
    refine aV M (v:= .int k m) ?_ e2 (by rw [e1];exact .aP _ _)
    simp [execOp,ho,hvx,hvy,eqGuard_at_int,h2]
   have bitsIf:∀(m:Int) {c:Prop} [vo c],(bS (.aP k m) c sc).bL (ae hp)=some (res,rd)→(c→(binOp op t (.int k p) (.int k q)).run P w= .ok (.int k m) w)→b9 P F S β hp w a o res:=by
    intro m c _ h1 h2
    obtain ⟨e1,e2,_,e4⟩:=bQ h1
    have hw:=hc _ (by rw [e4];exact List.mem_singleton.2 rfl)
    refine aV M (v:= .int k m) ?_ e2 (by rw [e1];exact .aP _ _)
    simp [execOp,ho,hvx,hvy,eqGuard_at_int,h2 hw]
   have shl:(bS (.aP k (eI p q)) (0≤q∧q.toNat≤k.bits∧k.wrap (eI p q)=eI p q) sc).bL (ae hp)=some (res,rd)→op= .shl→b9 P F S β hp w a o res:=by
    intro h1 h2
    subst h2
    obtain ⟨e1,e2,_,e4⟩:=bQ h1
    have hw:=hc _ (by rw [e4];exact List.mem_singleton.2 rfl)
    simp only [] at hw
    obtain ⟨w1,w2,w3⟩:=hw
    refine aV M (v:= .int k (eI p q)) ?_ e2 (by rw [e1];exact .aP _ _)
    have hb:(binOp .shl t (.int k p) (.int k q)).run P w= .ok (.int k (eI p q)) w:=by
     have w4:k.wrap (p*2^q.toNat)=eI p q:=w3
     simp [binOp,Op.shift,Int.not_lt.2 w1,Nat.min_eq_left w2,w4]
    simp [execOp,ho,hvx,hvy,eqGuard_at_int,hb]
   cases op<;>first
    |exact shl hr rfl
    |exact arith _ hr (by simp [binOp,Op.intArith])
    |exact cmp _ hr (by simp [binOp,Op.intCmp];try rfl)
    |(simp only [Fb,yW] at hr;exact bits _ hr (by simp [binOp,Op.intBits]))
    |(simp only [Fb,yW] at hr;refine bitsIf _ hr fun hw=> ?_;simp [binOp,Op.intDiv,hw];done)
    |(simp only [Fb,yW] at hr;refine bitsIf _ hr fun hw=> ?_;simp [binOp,Op.shift,Int.not_lt.2 hw];done)
    |(simp only [Fb,yW] at hr;cases hr)
  ·rw [if_neg hk] at hr
   generalize hvx:a.eval x=vx at hx
   generalize hvy:a.eval y=vy at hy
   cases hx;cases hy
   have shi:∀(m:Int),(bS (.aP k m) (0≤q) sc).bL (ae hp)=some (res,rd)→(0≤q→(binOp op t (.int k p) (.int k' q)).run P w= .ok (.int k m) w)→b9 P F S β hp w a o res:=by
    intro m h1 h2
    obtain ⟨e1,e2,_,e4⟩:=bQ h1
    have hw:=hc _ (by rw [e4];exact List.mem_singleton.2 rfl)
    simp only [] at hw
    refine aV M (v:= .int k m) ?_ e2 (by rw [e1];exact .aP _ _)
    simp [execOp,ho,hvx,hvy,eqGuard_at_int,h2 hw]
   cases op<;>simp only [Ca] at hr<;>first
    |(refine shi _ hr fun hw=> ?_;simp [binOp,Op.shift,Int.not_lt.2 hw];done)
    |cases hr
 ·rename_i p q
  generalize hvx:a.eval x=vx at hx
  generalize hvy:a.eval y=vy at hy
  cases hx;cases hy
  have cmp:∀c:Bool,(g9 c sc).bL (ae hp)=some (res,rd)→(binOp op t (.string p) (.string q)).run P w= .ok (.bool c) w→b9 P F S β hp w a o res:=by
   intro c h1 h2
   obtain ⟨e1,e2⟩:=gt h1 hc
   refine aV M (v:= .bool c) ?_ e2 (by rw [e1];exact .ak _)
   simp [execOp,ho,hvx,hvy,eqGuard_at_string,h2]
  cases op<;>first
   |exact cmp _ hr (by simp [binOp,Op.stringOp,vA])
   |(cases hr;done)
   |skip
  obtain ⟨e1,e2,_,e4⟩:=bQ hr
  have hw:=hc _ (by rw [e4];exact List.mem_singleton.2 rfl)
  simp only [] at hw
  refine aV M (v:= .string (p++q)) ?_ e2 (by rw [e1];exact .J _)
  have hn:¬((p.size:Int)+(q.size:Int)>9223372036854775807):=by omega
  simp [execOp,ho,hvx,hvy,eqGuard_at_string,binOp,Op.stringOp,hn]
 ·rename_i p q
  generalize hvx:a.eval x=vx at hx
  generalize hvy:a.eval y=vy at hy
  cases hx;cases hy
  split at hr
  ·rename_i hu
   have hu':P.underlying t=some .bool:=by
    cases h:P.underlying t with
    |none=>rw [h] at hu;simp at hu
    |some d=>cases d<;>simp [h] at hu⊢
   have hbin:∀b1 b2,(Op.equal t (.bool b1) (.bool b2)).run P w= .ok (decide (b1=b2)) w:=by
    intro b1 b2
    simp only [Op.equal,Op.maxDepth]
    rw [run_equalIn_bool' w 9999 t b1 b2 hu']
    cases b1<;>cases b2<;>rfl
   cases op<;>first
    |(obtain ⟨e1,e2⟩:=gt hr hc;refine aV M (v:= .bool _) ?_ e2 (by rw [e1];exact .ak _);simp [execOp,ho,hvx,hvy,eqGuard_at_bool,binOp,hbin])
    |(cases hr;done)
  ·cases hr
 ·cases hr
theorem Fg {t:TypeId} {d:TypeDesc} (hd:P.underlying t=some d) {v u:Value} {x y:AV} {b:Bool} (hx:V S β w v x) (hy:V S β w u y) (h:xw d x y=some b) (k:Nat):
  (Op.equalIn (k+1) t v u).run P w= .ok b w:=by
 unfold xw at h
 split at h<;>first
  |(cases h;done)
  |skip
 all_goals
  injection h with h
  subst h
  cases hx<;>cases hy
 all_goals first
  |(simp [Op.equalIn,run_underlying hd];done)
  |(rename_i hn;obtain ⟨m,rfl⟩:=Nat.exists_eq_succ_of_ne_zero hn;simp [Op.equalIn,run_underlying hd,Nat.beq];done)
  |skip
 rename_i hp _ _ _ _
 obtain ⟨rfl,_⟩:=hp (by simp)
 simp [Op.equalIn,run_underlying hd]
theorem xB {d:TypeDesc} {v u:Value} {x y:AV} {b:Bool} (hx:V S β w v x) (hy:V S β w u y) (h:xw d x y=some b) (t:TypeId):
  binOp .eql t v u=(do pure (.bool (←Op.equal t v u)))∧binOp .neq t v u=(do pure (.bool (!(←Op.equal t v u))))∧∀op p q,(eqGuard op t p q v u).run P w= .ok () w:=by
 unfold xw at h
 split at h<;>first
  |(cases h;done)
  |skip
 all_goals
  cases hx<;>cases hy<;>exact ⟨rfl,rfl,fun op p q=>by simp[eqGuard]⟩
theorem xC {t:TypeId} {d:TypeDesc} (hd:P.underlying t=some d) {v u:Value} {x y:AV} {b:Bool} (hx:V S β w v x) (hy:V S β w u y) (h:xw d x y=some b):
  (binOp .eql t v u).run P w= .ok (.bool b) w∧(binOp .neq t v u).run P w= .ok (.bool (!b)) w∧∀op p q,(eqGuard op t p q v u).run P w= .ok () w:=by
 obtain ⟨h2,h3,h4⟩:=xB (P:=P) hx hy h t
 have h1:(Op.equal t v u).run P w= .ok b w:=Fg hd hx hy h 9999
 simp_all
theorem Kl {op:BinOp} {t ty:TypeId} {x y:Operand} {X Y:AV} (ho:o.op= .binOp op t x y ty) (M:b7 F S β hp w) (hx:V S β w (a.eval x) X) (hy:V S β w (a.eval y) Y)
  (hr:(Fc P op t X Y sc).bL (ae hp)=some (res,rd)) (hc:∀c,c∈res.cs→c.p):b9 P F S β hp w a o res:=by
 unfold Fc at hr
 cases hu:P.underlying t with
 |none=>rw [hu] at hr;cases hr
 |some d=>
  rw [hu] at hr
  simp only at hr
  cases hq:xw d X Y with
  |none=>rw [hq] at hr;cases hr
  |some b=>
   rw [hq] at hr
   obtain ⟨h1,h2,h3⟩:=xC hu hx hy hq
   cases op<;>first
    |(simp only at hr;cases hr;done)
    |skip
   ·obtain ⟨e1,e2⟩:=gt hr hc
    refine aV M (v:= .bool b) ?_ e2 (by rw [e1];exact .ak _)
    simp_all[execOp]
   ·obtain ⟨e1,e2⟩:=gt hr hc
    refine aV M (v:= .bool (!b)) ?_ e2 (by rw [e1];exact .ak _)
    simp_all[execOp]
theorem Fi {x:Operand} {t:TypeId} {b:Bool} (ho:o.op= .unOp .not t x) (M:b7 F S β hp w) (hx:V S β w (a.eval x) (.ak b)) (hr:(val (.ak (!b)) sc).bL (ae hp)=some (res,rd)):
  b9 P F S β hp w a o res:=by
 obtain ⟨h1,h2,_,_⟩:=bB hr
 generalize hv:a.eval x=v at hx
 cases hx
 refine aV M (v:= .bool (!b)) ?_ h2 (by rw [h1];exact .ak _)
 simp_all[execOp,Op.unary]
theorem Kk {x:Operand} {t:TypeId} {k:IntKind} {n:Int} (ho:o.op= .unOp .neg t x) (M:b7 F S β hp w) (hx:V S β w (a.eval x) (.aP k n)) (hr:(val (.aP k (k.wrap (0-n))) sc).bL (ae hp)=some (res,rd)):
  b9 P F S β hp w a o res:=by
 obtain ⟨h1,h2,_,_⟩:=bB hr
 generalize hv:a.eval x=v at hx
 cases hx
 refine aV M (v:= .int k (k.wrap (0-n))) ?_ h2 (by rw [h1];exact .aP _ _)
 simp_all[execOp,Op.unary,Op.intArith]
theorem nO {x:Operand} {t:TypeId} {X:AV} {d:TypeDesc} (ho:o.op= .makeInterface t x) (M:b7 F S β hp w) (hx:V S β w (a.eval x) X) (hu:P.underlying t=some d) (hd:∀ms,d≠ .interface ms)
  (hr:(val (.bu t X) sc).bL (ae hp)=some (res,rd)):b9 P F S β hp w a o res:=by
 obtain ⟨h1,h2,_,_⟩:=bB hr
 refine aV M (v:= .iface t (a.eval x)) ?_ h2 (by rw [h1];exact .bu _ _ _ hx)
 have:(Instr.makeInterface t (a.eval x)).run P w= .ok (.iface t (a.eval x)) w:=by
  cases d<;>first
   |exact absurd rfl (hd _)
   |simp [Instr.makeInterface,run_underlying hu]
 simp_all[execOp]
theorem xD {x:Operand} {i:Nat} {xs:List AV} {X:AV} (ho:o.op= .extract x i) (M:b7 F S β hp w) (hx:V S β w (a.eval x) (.bC xs)) (hX:xs[i]? =some X) (hr:(val X sc).bL (ae hp)=some (res,rd)):
  b9 P F S β hp w a o res:=by
 obtain ⟨h1,h2,_,_⟩:=bB hr
 generalize hv:a.eval x=v at hx
 cases hx with
 |bC vs _ hl h=>
  have hlt:i<xs.length:=(List.getElem?_eq_some_iff.1 hX).1
  have hvi:vs[i]? =some (vs[i]'(by omega)):=List.getElem?_eq_getElem (by omega)
  refine aV M (v:=vs[i]'(by omega)) ?_ h2 (by grind)
  simp_all[execOp,Instr.extract]
theorem oN {x:Operand} {X:AV} (hX:(∃i k q,X= .aA i k q)∨∃cs,X= .aE cs) (ho:o.op= .nilCheck x) (M:b7 F S β hp w) (hx:V S β w (a.eval x) X) (hr:(val X sc).bL (ae hp)=some (res,rd)):
  b9 P F S β hp w a o res:=by
 obtain ⟨h1,h2,_,_⟩:=bB hr
 have hp':∃ad,a.eval x= .pointer (some ad):=by
  generalize a.eval x=v at hx
  rcases hX with ⟨i,k,q,rfl⟩|⟨cs,rfl⟩
  ·cases hx;simp
  ·cases hx;simp
 obtain ⟨ad,hv⟩:=hp'
 refine aV M (v:=a.eval x) ?_ h2 (by grind)
 simp_all[execOp]
end
end
section
section
variable {P:Program} {F:Fr} {S:df} {β:bn} {hp:List (Nat×Ob)} {w:World} {a:Act} {o:Oper} {res:dT} {rd:List Nat} {sc:List cv}
def iB (g:Bool) (vs:List Value):Value:=if g then .agg vs.toArray else vs.headD undef
def bY (S:df) (β:bn) (w:World) (vs:List Value) (xs:List AV):Prop:=vs.length=xs.length∧∀(i:Nat) v x,vs[i]? =some v→xs[i]? =some x→V S β w v x
theorem bY.xE {vs:List Value} {xs:List AV} (h:bY S β w vs xs) (n:Nat):bY S β w (vs.take n) (xs.take n):=by
 refine ⟨by rw [List.length_take,List.length_take,h.1],fun i v x h1 h2=> ?_⟩
 rw [List.getElem?_take] at h1 h2
 split at h1
 ·rename_i hi;rw [if_pos hi] at h2;exact h.2 i v x h1 h2
 grind
theorem bY.AH {vs:List Value} {xs:List AV} (h:bY S β w vs xs) (n:Nat):bY S β w (vs.drop n) (xs.drop n):=by
 refine ⟨by rw [List.length_drop,List.length_drop,h.1],fun i v x h1 h2=> ?_⟩
 rw [List.getElem?_drop] at h1 h2
 exact h.2 _ v x h1 h2
theorem pV {t:TypeId} {g:Bool} {n:Nat} (hg:ik P t=some g) (hn:cJ P t=some n) (vs:List Value) (k:Nat) (hk:k+n≤vs.length) (h1:g=false→n=1):
  (part t vs.toArray k).run P w= .ok (iB g ((vs.drop k).take n)) w:=by
 cases g with
 |true=>simp_all[part,fg,cW,iB,List.extract_eq_take_drop,Nat.add_sub_cancel_left]
 |false=>
  have:=h1 rfl
  subst this
  have hlt:k<vs.length:=by omega
  have e:(vs.drop k).take 1=[vs[k]]:=by grind[List.drop_eq_getElem_cons]
  simp_all[part,fg,iB]
theorem pT {xs xs':List AV} {m k:Nat} (h:xs'=xs.drop k) (hl:xs.length=m+xs'.length) (hk:k≤xs.length):k=m:=by
 grind
theorem pU (d e:Nat) (f:TypeId→List AV→List AV→Option (Bool×List AV×List AV))
  (hf:∀(t:TypeId) (xs ys xs' ys':List AV) (r:Bool) (vs us:List Value),f t xs ys=some (r,xs',ys')→bY S β w vs xs→bY S β w us ys→
   ∃m,xs'=xs.drop m∧ys'=ys.drop m∧m≤xs.length∧m≤ys.length∧∀g,ik P t=some g→(g=false→m=1)→(Op.equalIn e t (iB g (vs.take m)) (iB g (us.take m))).run P w= .ok r w):
  ∀(gs:List Field) (n:Nat) (xs ys xs' ys':List AV) (r:Bool) (vs us:List Value),AF P f gs n (xs.drop n) (ys.drop n)=some (r,xs',ys')→bY S β w vs xs→bY S β w us ys→n≤xs.length→n≤ys.length→
   ∃m,n≤m∧xs'=xs.drop m∧ys'=ys.drop m∧m≤xs.length∧m≤ys.length∧∀M,m≤M→(Op.eqFields e (vs.take M).toArray (us.take M).toArray gs).run P w= .ok r w
 |[],n,xs,ys,xs',ys',r,vs,us,h,hv,hu,h1,h2=>by
  simp only [AF] at h
  injection h with h;injection h with h3 h4;injection h4 with h4 h5
  subst h3;subst h4;subst h5
  exact ⟨n,Nat.le_refl _,rfl,rfl,h1,h2,fun M _=>by rfl⟩
 |g::gs,n,xs,ys,xs',ys',r,vs,us,h,hv,hu,h1,h2=>by
  simp only [AF] at h
  by_cases hg:g.offset=n∧g.name≠ "_"
  ·rw [if_pos hg] at h
   cases hx:f g.type (xs.drop n) (ys.drop n) with
   |none=>grind
   |some p=>
    obtain ⟨c,xs1,ys1⟩:=p
    rw [hx] at h
    cases hs:cJ P g.type with
    |none=>grind
    |some m=>
     cases ha:ik P g.type with
     |none=>grind
     |some b=>
      rw [hs,ha] at h
      simp only at h
      split at h
      ·rename_i hlen
       obtain ⟨l1,l2,l3⟩:=hlen
       cases hq:AF P f gs (n+m) xs1 ys1 with
       |none=>grind
       |some q=>
        obtain ⟨r1,xs2,ys2⟩:=q
        rw [hq] at h
        injection h with h;injection h with h3 h4;injection h4 with h4 h5
        subst h3;subst h4;subst h5
        obtain ⟨k,e1,e2,e3,e4,hrun⟩:=hf _ _ _ _ _ _ _ _ hx (hv.AH n) (hu.AH n)
        have hk:k=m:=pT e1 l1 e3
        subst hk
        rw [List.length_drop] at e3 e4
        rw [List.drop_drop] at e1 e2
        rw [e1,e2] at hq
        obtain ⟨j,i2,i3,i4,i5,i6,i1⟩:=pU d e f hf gs (n+k) xs ys _ _ r1 vs us hq hv hu (by omega) (by omega)
        refine ⟨j,by omega,i3,i4,i5,i6,fun M hM=> ?_⟩
        have hrun:=hrun b ha l3
        have tk:∀(l:List Value),((l.take M).drop n).take k=(l.drop n).take k:=by
         grind[List.drop_take,Nat.min_eq_left]
        have p1:=pV (P:=P) (w:=w) ha hs (vs.take M) n (by rw [List.length_take];have:=hv.1;omega) l3
        have p2:=pV (P:=P) (w:=w) ha hs (us.take M) n (by rw [List.length_take];have:=hu.1;omega) l3
        rw [tk] at p1 p2
        have i1:=i1 M hM
        simp only [Op.eqFields,hg.2,ne_eq,not_false_eq_true,if_true,Sem.run_bind,hg.1,p1,p2,Result.andThen_ok,hrun]
        cases c
        all_goals simp_all
      grind
  grind
theorem lR:∀(d:Nat) (e:Nat),d≤e→∀(t:TypeId) (xs ys xs' ys':List AV) (r:Bool) (vs us:List Value),tY P d t xs ys=some (r,xs',ys')→bY S β w vs xs→bY S β w us ys→
   ∃m,xs'=xs.drop m∧ys'=ys.drop m∧m≤xs.length∧m≤ys.length∧∀g,ik P t=some g→(g=false→m=1)→(Op.equalIn e t (iB g (vs.take m)) (iB g (us.take m))).run P w= .ok r w
 |0,_,_,_,_,_,_,_,_,_,_,h,_,_=>by cases h
 |d+1,e,hde,t,xs,ys,xs',ys',r,vs,us,h,hv,hu=>by
  obtain ⟨e,rfl⟩:∃e',e=e'+1:=⟨e-1,by omega⟩
  have heads:∀{x y:AV} {l l':List AV},xs=x::l→ys=y::l'→∃v u,V S β w v x∧V S β w u y∧vs.take 1=[v]∧us.take 1=[u]:=by
   rintro x y l l' rfl rfl
   match vs,us,hv,hu with
   |v::_,u::_,hv,hu=>exact ⟨v,u,hv.2 0 v x rfl rfl,hu.2 0 u y rfl rfl,rfl,rfl⟩
   |[],_,hv,_=>exact absurd hv.1 (by simp)
   |_::_,[],_,hu=>exact absurd hu.1 (by simp)
  unfold tY at h
  split at h
  ·rename_i k0 k p l k' q l' hut
   by_cases hk:k=k'
   ·rw [if_pos hk] at h
    subst hk
    injection h with h;injection h with h3 h4;injection h4 with h4 h5
    subst h3;subst h4;subst h5
    obtain ⟨v,u,h1,h2,h3,h4⟩:=heads rfl rfl
    refine ⟨1,rfl,rfl,by simp,by simp,fun g hg _=> ?_⟩
    cases h1;cases h2
    rw [h3,h4]
    have:g=false:=by grind[ik]
    subst this
    simp only [iB,List.headD_cons,Bool.false_eq_true,if_false]
    grind[run_equalIn_int]
   grind
  ·rename_i p l q l' hut
   injection h with h;injection h with h3 h4;injection h4 with h4 h5
   subst h3;subst h4;subst h5
   obtain ⟨v,u,h1,h2,h3,h4⟩:=heads rfl rfl
   refine ⟨1,rfl,rfl,by simp,by simp,fun g hg _=> ?_⟩
   cases h1;cases h2
   rw [h3,h4]
   have:g=false:=by grind[ik]
   subst this
   simp only [iB,List.headD_cons,Bool.false_eq_true,if_false]
   grind[run_equalIn_bool']
  ·rename_i p l q l' hut
   injection h with h;injection h with h3 h4;injection h4 with h4 h5
   subst h3;subst h4;subst h5
   obtain ⟨v,u,h1,h2,h3,h4⟩:=heads rfl rfl
   refine ⟨1,rfl,rfl,by simp,by simp,fun g hg _=> ?_⟩
   cases h1;cases h2
   rw [h3,h4]
   have:g=false:=by grind[ik]
   simp_all[iB,List.headD_cons,Bool.false_eq_true,if_false,run_equalIn_string,vA]
  ·rename_i fields hut
   by_cases hst:P.stoodInHeld t=true
   ·grind
   ·rw [if_neg hst] at h
    have hfo:P.fieldsOf t=fields:=by grind[Program.fieldsOf]
    obtain ⟨m,_,i3,i4,i5,i6,i1⟩:=pU d e (tY P d) (fun t xs ys xs' ys' r vs us h1 h2 h3=>lR d e (by omega) t xs ys xs' ys' r vs us h1 h2 h3) fields.toList 0 _ _ xs' ys' r vs us (by grind) hv hu (by omega) (by omega)
    refine ⟨m,i3,i4,i5,i6,fun g hg _=> ?_⟩
    simp_all[ik,iB,if_true,run_equalIn_struct,Nat.le_refl]
  grind
theorem Cf {op:BinOp} {t ty:TypeId} {x y:Operand} {xs ys:List AV} (ho:o.op= .binOp op t x y ty) (M:b7 F S β hp w) (hx:V S β w (a.eval x) (.al xs)) (hy:V S β w (a.eval y) (.al ys))
  (hr:(tX P op t (.al xs) (.al ys) sc).bL (ae hp)=some (res,rd)) (hc:∀c,c∈res.cs→c.p):b9 P F S β hp w a o res:=by
 simp only [tX] at hr
 by_cases hg:P.eqGuardType P.depth t=false∧ik P t=some true
 ·rw [if_pos hg] at hr
  cases hq:tY P 20 t xs ys with
  |none=>rw [hq] at hr;cases hr
  |some p=>
   obtain ⟨b,l,l'⟩:=p
   rw [hq] at hr
   generalize hvx:a.eval x=vx at hx
   generalize hvy:a.eval y=vy at hy
   cases hx with
   |al vs _ hl h=>
    cases hy with
    |al us _ hl' h'=>
     have main:l=[]→l'=[]→(Op.equalIn 10000 t (.agg vs.toArray) (.agg us.toArray)).run P w= .ok b w:=by
      intro e1 e2
      obtain ⟨m,i1,i2,i3,i4,i5⟩:=lR (P:=P) (S:=S) (β:=β) (w:=w) 20 10000 (by omega) t xs ys l l' b vs us hq ⟨hl,h⟩ ⟨hl',h'⟩
      have:=i5 true hg.2 (by simp)
      have k1:vs.take m=vs:=List.take_of_length_le (by simp_all)
      have k2:us.take m=us:=List.take_of_length_le (by simp_all)
      grind[iB]
     have gd:(eqGuard op t x y (.agg vs.toArray) (.agg us.toArray)).run P w= .ok () w:=run_eqGuard_agg w op t x y _ _ hg.1
     cases l with
     |cons _ _=>simp only at hr;cases hr
     |nil=>
      cases l' with
      |cons _ _=>simp only at hr;cases hr
      |nil=>
       have main:=main rfl rfl
       cases op<;>first
        |(simp only at hr;cases hr;done)
        |(obtain ⟨e1,e2⟩:=gt hr hc;refine aV M (v:= .bool _) ?_ e2 (by rw [e1];exact .ak _);simp_all[execOp,Sem.run_bind,Result.andThen_ok,run_eql_struct,run_neq_struct,Sem.run_pure])
 ·rw [if_neg hg] at hr;cases hr
end
end
section
section
variable {P:Program} {F:Fr} {S:df} {β:bn} {hp:List (Nat×Ob)} {w:World} {a:Act} {o:Oper} {res:dT} {rd:List Nat} {sc:List cv}
theorem pW:∀(l:List UInt8) (s:ByteArray),(l.map fun b=>(b.toNat:Int)).foldl (fun r n=>r.push (UInt8.ofNat n.toNat)) s=⟨s.data++l.toArray⟩
 |[],s=>by simp
 |b::l,s=>by
  simp only [List.map_cons,List.foldl_cons]
  rw [pW l]
  simp
theorem IY {e:TypeId} (h:NL P e=true):P.underlying e=some (.int .u8):=by
 grind[NL]
theorem Cg {src dst e:TypeId} {x:Operand} {id off len:Nat} (ho:o.op= .convert src dst x) (M:b7 F S β hp w) (hs:P.underlying src=some (.slice e)) (hd:P.underlying dst=some .string) (he:P.underlying e=some (.int .u8))
  (hx:V S β w (a.eval x) (.aw id off len)) (hr:(xo id off len sc).bL (ae hp)=some (res,rd)) (hc:∀c,c∈res.cs→c.p):b9 P F S β hp w a o res:=by
 cases sc with
 |nil=>cases hr
 |cons dd sc'=>
  cases dd with
  |vw s=>
   simp only [xo,Rd.bL] at hr
   cases hl:ae hp id with
   |none=>grind
   |some ob=>
    rw [hl] at hr
    have hob:=M.dg id ob hl
    cases ob with
    |aw sz es=>
     simp only at hr
     by_cases hsz:sz=1
     ·rw [if_pos hsz] at hr
      simp only [bS,Rd.bL] at hr
      injection hr with hr;injection hr with hr _;subst hr
      obtain ⟨rfl,hlen,htake⟩:=hc _ (List.mem_singleton.2 rfl)
      generalize hv:a.eval x=v at hx
      cases hx with
      |aw _ _ _ ad bi hb hle ha=>
       obtain ⟨bj,e1,e2,cur,ty,h1,h2,h3,h4,h5,h6⟩:=hob
       rw [hb] at e1;injection e1 with e1;subst e1
       rw [hsz] at e2
       rw [e2] at h2 h5 h6
       have hcells:∀(j:Nat) v,(s.data.toList.map fun b=>Value.int .u8 (b.toNat:Int))[j]? =some v→w.cell? ⟨bi.bG,0+j,none⟩=some v:=by
        intro j v hj
        have hjl:j<len:=by have:=(List.getElem?_eq_some_iff.1 hj).1;simp_all
        have hje:es[j]? =(s.data.toList.map fun b=>AV.aP .u8 (b.toNat:Int))[j]? :=by grind
        rw [List.getElem?_map] at hje hj
        cases hb2:s.data.toList[j]? with
        |none=>grind
        |some b2=>
         rw [hb2] at hje hj
         injection hj with hj
         subst hj
         obtain ⟨u,hu,hV⟩:=h6 j 0 (.aP .u8 b2.toNat) (.aP .u8 b2.toNat) hje rfl
         cases hV
         rw [cK h1,Nat.zero_add]
         grind
       have hload:=ka (P:=P) (w:=w) bi.bG 0 _ hcells
       rw [List.length_map] at hload
       have hsl:s.data.toList.length=len:=by simp_all
       rw [hsl] at hload
       have had:0<len→ad=⟨bi.bG,0,none⟩:=fun h=>by grind
       have hconv:(Conv.bytesToString (.slice (some ad) len (bi.f5-0))).run P w= .ok (.string s) w:=by
        by_cases h0:0<len
        ·rw [had h0]
         have:=run_bytesToString (P:=P) w ⟨bi.bG,0,none⟩ len (bi.f5-0) (s.data.toList.map fun b=>(b.toNat:Int)) (by simp_all)
         simp_all[pW]
        ·have h0':len=0:=by omega
         subst h0'
         have hnil:s.data.toList=[]:=List.eq_nil_of_length_eq_zero hsl
         have hsn:s=ByteArray.empty:=by
          obtain ⟨⟨l⟩⟩:=s
          simp only at hnil
          subst hnil
          rfl
         have hz:∀(b:Addr),(loadCells b 0).run P w= .ok #[] w:=fun b=>by rfl
         have:=run_bytesToString (P:=P) w ad 0 (bi.f5-0) [] (by rfl)
         grind
       rw [Nat.sub_zero] at hconv hv
       refine aV M (v:= .string s) ?_ rfl (.J _)
       simp [execOp,ho,hv,convert,run_underlying hs,run_underlying hd,run_underlying he,hconv]
     ·rw [if_neg hsz] at hr;cases hr
    |_=>cases hr
  |_=>cases hr
theorem xG {src dst e:TypeId} {x:Operand} {s:ByteArray} (ho:o.op= .convert src dst x) (M:b7 F S β hp w) (hs:P.underlying src=some .string) (hd:P.underlying dst=some (.slice e)) (he:P.underlying e=some (.int .u8))
  (hx:V S β w (a.eval x) (.J s)) (hr:(bS (.aF (s.data.toList.map fun b=> .aP .u8 b.toNat) false) (s.size≤maxLen) sc).bL (ae hp)=some (res,rd)) (hc:∀c,c∈res.cs→c.p):b9 P F S β hp w a o res:=by
 generalize hv:a.eval x=v at hx
 cases hx
 obtain ⟨e1,e2,_,e4⟩:=bQ hr
 have hmax:=hc _ (by rw [e4];exact List.mem_singleton.2 rfl)
 simp only [] at hmax
 have hge:=grownCap_ge w s.size 0 e
 have hcm:grownCap w s.size 0 e≤maxLen:=grownCap_le_maxLen w _ 0 e hmax
 have M0:b7 F S β hp w.drew:=M.xA rfl rfl rfl rfl
 have E0:lg S S β β w w.drew:=⟨fun _ h=>h,fun _ _ h=>h,fun _ _=>rfl⟩
 obtain ⟨E1,M1⟩:=M0.lay (.cells (bytesRow s (grownCap w s.size 0 e)) e ((bytesRow s (grownCap w s.size 0 e)).size,(bytesRow s (grownCap w s.size 0 e)).size+1))
 refine bM (v:= .slice (some ⟨w.heap.size,0,none⟩) s.size (grownCap w s.size 0 e)) ?_ (E0.ck E1) (by rw [e2];exact M1) ?_
 ·simp_all[execOp,run_bytes_of_string]
 ·rw [e1]
  have hlen:s.size=(s.data.toList.map fun b=>AV.aP .u8 b.toNat).length:=by simp
  have hcell:∀(i:Nat) (b:UInt8),s.data.toList[i]? =some b→(w.drew.alloc (.cells (bytesRow s (grownCap w s.size 0 e)) e ((bytesRow s (grownCap w s.size 0 e)).size,(bytesRow s (grownCap w s.size 0 e)).size+1))).cell? ⟨w.heap.size,i,none⟩=some (.int .u8 b.toNat):=by
   intro i b hb
   have hb':s.data[i]? =some b:=by grind
   have hh:(w.drew.alloc (.cells (bytesRow s (grownCap w s.size 0 e)) e ((bytesRow s (grownCap w s.size 0 e)).size,(bytesRow s (grownCap w s.size 0 e)).size+1))).heap[w.heap.size]? =some (.cells (bytesRow s (grownCap w s.size 0 e)) e ((bytesRow s (grownCap w s.size 0 e)).size,(bytesRow s (grownCap w s.size 0 e)).size+1)):=by
    show (w.heap.push _)[w.heap.size]? =_
    simp
   rw [cK hh]
   unfold bytesRow
   grind
  have:=V.aF (S:=fun b=>S b∨b=w.heap.size) (β:=β) (w:=(w.drew.alloc (.cells (bytesRow s (grownCap w s.size 0 e)) e ((bytesRow s (grownCap w s.size 0 e)).size,(bytesRow s (grownCap w s.size 0 e)).size+1)))) (some ⟨w.heap.size,0,none⟩) (grownCap w s.size 0 e) 1 w.heap.size 0 (s.data.toList.map fun b=>AV.aP .u8 b.toNat) false
   (fun i _=>((s.data.toList.map fun b=>Value.int .u8 b.toNat)[i]?).getD undef) (by omega) hcm (fun h=>by grind) (fun _=>⟨rfl,.inr rfl⟩) (fun i e he=> ?_) (fun i j e c h1 h2=> ?_) (fun i j e c h1 h2=> ?_)
  ·rw [←hlen] at this;exact this
  ·rw [List.getElem?_map] at he
   obtain ⟨b,hb,rfl⟩:=Option.map_eq_some_iff.1 he
   rfl
  ·rw [List.getElem?_map] at h1
   obtain ⟨b,hb,rfl⟩:=Option.map_eq_some_iff.1 h1
   cases j with
   |succ j=>grind[AV.ac]
   |zero=>
    grind
  ·rw [List.getElem?_map] at h1
   obtain ⟨b,hb,rfl⟩:=Option.map_eq_some_iff.1 h1
   cases j with
   |succ j=>grind[AV.ac]
   |zero=>
    simp [AV.ac] at h2
    subst h2
    simp only [List.getElem?_map,hb,Option.map_some,Option.getD_some]
    exact .aP _ _
theorem xF {src dst:TypeId} {x:Operand} {X:AV} (ho:o.op= .convert src dst x) (M:b7 F S β hp w) (hx:V S β w (a.eval x) X) (hr:(pR P src dst X sc).bL (ae hp)=some (res,rd)) (hc:∀c,c∈res.cs→c.p):
  b9 P F S β hp w a o res:=by
 unfold pR at hr
 split at hr
 ·rename_i k0 k k1 n hs hd
  generalize hv:a.eval x=v at hx
  cases hx
  obtain ⟨e1,e2,_,e4⟩:=bQ hr
  have hw:=hc _ (by rw [e4];exact List.mem_singleton.2 rfl)
  simp only [] at hw
  refine aV M (v:= .int k n) ?_ e2 (by rw [e1];exact .aP _ _)
  simp_all[execOp,convert,run_underlying,Conv.intToInt]
 ·rename_i s hs hd
  generalize hv:a.eval x=v at hx
  cases hx
  obtain ⟨e1,e2,_,_⟩:=bB hr
  refine aV M (v:= .string s) ?_ e2 (by rw [e1];exact .J _)
  simp_all[execOp,convert,run_underlying]
 ·rename_i e id off len hs hd
  by_cases he:NL P e=true
  ·rw [if_pos he] at hr
   grind[Cg,IY]
  ·rw [if_neg he] at hr;cases hr
 ·rename_i e s hs hd
  by_cases he:NL P e=true
  ·rw [if_pos he] at hr
   grind[xG,IY]
  ·rw [if_neg he] at hr;cases hr
 ·cases hr
end
end
section
section
variable {P:Program} {F:Fr} {S:df} {β:bn} {hp:List (Nat×Ob)} {w:World} {a:Act} {o:Oper} {res:dT} {rd:List Nat} {sc:List cv}
theorem Cj {s:TypeId} {x:Operand} {f:Nat} {X:AV} (ho:o.op= .field s x f) (M:b7 F S β hp w) (hx:V S β w (a.eval x) X) (hr:(xq P s f X sc).bL (ae hp)=some (res,rd)):
  b9 P F S β hp w a o res:=by
 unfold xq at hr
 split at hr
 ·rename_i fields cs hu
  cases hf:fields[f]? with
  |none=>rw [hf] at hr;cases hr
  |some g=>
   rw [hf] at hr
   simp only at hr
   cases hq:gg P g.type (cs.drop g.offset) with
   |none=>rw [hq] at hr;cases hr
   |some y=>
    rw [hq] at hr
    obtain ⟨e1,e2,_,_⟩:=bB hr
    generalize hv:a.eval x=v at hx
    cases hx with
    |al vs _ hl h=>
     have hpart:∃u,(part g.type vs.toArray g.offset).run P w= .ok u w∧V S β w u y:=by
      unfold gg at hq
      cases ha:ik P g.type with
      |none=>grind
      |some b=>
       cases hs:cJ P g.type with
       |none=>grind
       |some n=>
        rw [ha,hs] at hq
        cases b with
        |true=>
         simp only at hq
         split at hq
         ·rename_i hle
          injection hq with hq
          subst hq
          rw [List.length_drop] at hle
          refine ⟨.agg ((vs.drop g.offset).take n).toArray,?_,?_⟩
          ·simp_all[part,fg,cW,List.extract_eq_take_drop,Nat.add_sub_cancel_left]
          ·have E:bY S β w vs cs:=⟨hl,h⟩
           have E2:=(E.AH g.offset).xE n
           exact .al _ _ E2.1 E2.2
         grind
        |false=>
         simp only at hq
         have h0:cs[g.offset]? =some y:=by
          simp_all
         have hlt:g.offset<cs.length:=(List.getElem?_eq_some_iff.1 h0).1
         have hvv:vs[g.offset]? =some (vs[g.offset]'(by omega)):=List.getElem?_eq_getElem (by omega)
         refine ⟨vs[g.offset]'(by omega),?_,h _ _ _ hvv h0⟩
         simp_all[part,fg]
     obtain ⟨u,h1,h2⟩:=hpart
     simp_all[aV,execOp,Instr.field,run_underlying,asAgg]
 ·cases hr
theorem bY.jv {vs:List Value} {xs ys:List AV} (h:bY S β w vs (xs++ys)):bY S β w (vs.take xs.length) xs∧bY S β w (vs.drop xs.length) ys:=by
 have h1:=h.xE xs.length
 have h2:=h.AH xs.length
 grind
theorem vC {f:FuncId} {first cap:Array Operand} {xs:List AV} (ho:o.op= .makeFunc (.func f) first cap) (M:b7 F S β hp w)
  (hx:bY S β w ((first++cap).toList.map a.eval) xs) (hr:(val (.bZ f (xs.take first.size) (xs.drop first.size)) sc).bL (ae hp)=some (res,rd)):
  b9 P F S β hp w a o res:=by
 obtain ⟨e1,e2,_,_⟩:=bB hr
 refine aV M (v:= .func (.func f) (first.map a.eval) (cap.map a.eval)) ?_ e2 ?_
 ·simp_all[execOp,Instr.makeFunc]
 ·rw [e1]
  have h1:=hx.xE first.size
  have h2:=hx.AH first.size
  have q1:((first++cap).toList.map a.eval).take first.size=(first.map a.eval).toList:=by
   simp
  have q2:((first++cap).toList.map a.eval).drop first.size=(cap.map a.eval).toList:=by
   simp
  rw [q1] at h1
  rw [q2] at h2
  have:=V.bZ (S:=S) (β:=β) (w:=w) f _ _ _ _ h1.1 h2.1 h1.2 h2.2
  omega
theorem Kn {t ty:TypeId} {x:Operand} {X:AV} (ho:o.op= .call ⟨.builtin .len,#[x],#[t]⟩) (M:b7 F S β hp w) (hx:V S β w (a.eval x) X) (hr:(Ki P t X sc).bL (ae hp)=some (res,rd)):
  b9 P F S β hp w a o res:=by
 unfold Ki at hr
 generalize hv:a.eval x=v at hx
 split at hr
 ·rename_i e es clip hu
  obtain ⟨e1,e2,_,_⟩:=bB hr
  cases hx with
  |aF p cap sz b o2 _ _ U hcap hmax hclip hp' hsz hcc hvv=>
   refine aV M (v:= .int .i64 es.length) ?_ e2 (by rw [e1];exact .aP _ _)
   simp [execOp,ho,resolve,invoke,builtin,hv,Builtin.len_,run_underlying hu,goInt]
 ·rename_i e id off n hu
  obtain ⟨e1,e2,_,_⟩:=bB hr
  cases hx with
  |aw _ _ _ ad bi hb hle ha=>
   refine aV M (v:= .int .i64 n) ?_ e2 (by rw [e1];exact .aP _ _)
   simp [execOp,ho,resolve,invoke,builtin,hv,Builtin.len_,run_underlying hu,goInt]
 ·rename_i e id n hu
  obtain ⟨e1,e2,_,_⟩:=bB hr
  cases hx with
  |ft=>
   refine aV M (v:= .int .i64 (0:Nat)) ?_ e2 (by rw [e1];exact .aP _ _)
   simp [execOp,ho,resolve,invoke,builtin,hv,Builtin.len_,run_underlying hu,goInt]
  |ix _ _ ad bi hb hle ha hne=>
   refine aV M (v:= .int .i64 n) ?_ e2 (by rw [e1];exact .aP _ _)
   simp [execOp,ho,resolve,invoke,builtin,hv,Builtin.len_,run_underlying hu,goInt]
 ·rename_i e sz es hu
  obtain ⟨e1,e2,_,_⟩:=bB hr
  cases hx with
  |aX p cap _ _=>
   refine aV M (v:= .int .i64 es.length) ?_ e2 (by rw [e1];exact .aP _ _)
   simp [execOp,ho,resolve,invoke,builtin,hv,Builtin.len_,run_underlying hu,goInt]
 ·rename_i s hu
  obtain ⟨e1,e2,_,_⟩:=bB hr
  cases hx
  refine aV M (v:= .int .i64 s.size) ?_ e2 (by rw [e1];exact .aP _ _)
  simp [execOp,ho,resolve,invoke,builtin,hv,Builtin.len_,run_underlying hu,goInt]
 ·rename_i k e id hu
  simp only [Rd.bL] at hr
  cases hl:ae hp id with
  |none=>grind
  |some ob=>
   rw [hl] at hr
   have hob:=M.dg id ob hl
   cases ob with
   |aI ks vs=>
    simp only [val,Rd.bL] at hr
    injection hr with hr;injection hr with hr _
    subst hr
    obtain ⟨bi,es,cl,h1,h2,h3,_⟩:=hob
    cases hx with
    |aI _ bj hb=>
     rw [hb] at h1;injection h1 with h1;subst h1
     refine aV M (v:= .int .i64 ks.length) ?_ rfl (.aP _ _)
     simp [execOp,ho,resolve,invoke,builtin,hv,Builtin.len_,run_underlying hu,goInt,MapKept.run_getObj_map h2,h3]
   |_=>cases hr
 ·rename_i k e hu
  obtain ⟨e1,e2,_,_⟩:=bB hr
  cases hx
  refine aV M (v:= .int .i64 0) ?_ e2 (by rw [e1];exact .aP _ _)
  simp [execOp,ho,resolve,invoke,builtin,hv,Builtin.len_,run_underlying hu,goInt]
 ·rename_i k e ks vs hu
  obtain ⟨e1,e2,_,_⟩:=bB hr
  cases hx with
  |bH r es cl _ _ hS hh hk1 hl1 hkv hvv=>
   refine aV M (v:= .int .i64 ks.length) ?_ e2 (by rw [e1];exact .aP _ _)
   simp [execOp,ho,resolve,invoke,builtin,hv,Builtin.len_,run_underlying hu,goInt,MapKept.run_getObj_map hh,hk1]
 ·rename_i n e hu
  obtain ⟨e1,e2,_,_⟩:=bB hr
  refine aV M (v:= .int .i64 n) ?_ e2 (by rw [e1];exact .aP _ _)
  simp [execOp,ho,resolve,invoke,builtin,hv,Builtin.len_,run_underlying hu,goInt]
 ·cases hr
theorem pY:∀(ids:List Nat) (k:List (Nat×Ob)→Rd dT) {res:dT} {rd:List Nat},(Cb ids k).bL (ae hp)=some (res,rd)→∃pre rd',pre.map (·.1)=ids∧(∀id o,(id,o)∈pre→ae hp id=some o)∧(k pre).bL (ae hp)=some (res,rd')
 |[],k,res,rd,h=>⟨[],rd,rfl,by simp,h⟩
 |id::ids,k,res,rd,h=>by
  simp only [Cb,Rd.bL] at h
  cases hl:ae hp id with
  |none=>grind
  |some ob=>
   rw [hl] at h
   cases hq:(Cb ids fun l=>k ((id,ob)::l)).bL (ae hp) with
   |none=>grind
   |some p=>
    obtain ⟨r1,l1⟩:=p
    simp only [hq] at h
    injection h with h;injection h with h1 h2
    subst h1
    obtain ⟨pre,rd',i1,i2,i3⟩:=pY ids _ hq
    grind
theorem Fj {x:Operand} {args:Array Operand} {ts:Array TypeId} {f:AV} {xs:List AV} (ho:o.op= .call ⟨.value x,args,ts⟩) (M:b7 F S β hp w) (hf:V S β w (a.eval x) f) (hx:bY S β w (args.toList.map a.eval) xs)
  (hr:(mE P f xs sc).bL (ae hp)=some (res,rd)) (hc:∀c,c∈res.cs→c.p) (hn:∀id,id∈res.dN→ae hp id=none):b9 P F S β hp w a o res:=by
 cases f with
 |bZ g first cap=>
  cases sc with
  |nil=>cases hr
  |cons dd sc'=>
   cases dd with
   |dO r ids upd=>
    simp only [mE] at hr
    cases hfn:P.funcs[g]? with
    |none=>rw [hfn] at hr;cases hr
    |some fn=>
     rw [hfn] at hr
     simp only at hr
     by_cases hb:fn.body.isSome∧fn.name≠ "runtime.NumGoroutine"
     ·rw [if_pos hb] at hr
      obtain ⟨pre,rd',i1,i2,i3⟩:=pY ids _ hr
      injection i3 with i3;injection i3 with i3 _;subst i3
      have hspec:bK P g (first++xs++cap) pre r upd:=hc _ (List.mem_singleton.2 rfl)
      generalize hv:a.eval x=v at hf
      cases hf with
      |bZ _ fs gs _ _ h1 h2 h3 h4=>
       intro K Q hK
       have hbody:fn.body.isNone=false:=by simp_all
       have hrun:(execOp a.eval o).run P w= .ok (.enter g (fs.toArray++(args.map a.eval)++gs.toArray)) w:=by
        have hname:¬fn.name= "runtime.NumGoroutine" :=hb.2
        have hbody2:¬fn.body=none:=by grind
        simp [execOp,ho,resolve,Deferred.ofValue,hv,invoke,callFunc,run_program,hfn,hname,hbody2]
       rw [hrun]
       simp only [Oper.upon]
       have hargs:fs.toArray++(args.map a.eval)++gs.toArray=(fs++args.toList.map a.eval++gs).toArray:=by
        simp
       rw [hargs]
       have hlen:(fs++args.toList.map a.eval++gs).length=(first++xs++cap).length:=by
        have:=hx.1
        grind
       have hV:∀(i:Nat) v x,(fs++args.toList.map a.eval++gs)[i]? =some v→(first++xs++cap)[i]? =some x→V S β w v x:=by
        intro i v y hi hj
        have hx1:=hx.1
        by_cases c1:i<fs.length
        ·grind
        ·by_cases c2:i<fs.length+(args.toList.map a.eval).length
         ·rw [List.getElem?_append_left (by grind),List.getElem?_append_right (by omega)] at hi
          rw [List.getElem?_append_left (by grind),List.getElem?_append_right (by omega),←h1] at hj
          exact hx.2 _ v y hi hj
         grind
       refine (hspec F S β hp w _ M hlen hV i2 (fun id ob h1 h2=>hn id ?_)).mono ?_
       ·grind
       ·rintro e w' ⟨v,S',β',rfl,E,M',hv'⟩
        exact hK v w' S' β' E M' hv'
     ·rw [if_neg hb] at hr;cases hr
   |_=>cases hr
 |_=>cases hr
theorem Ci {g:FuncId} {us:List Value} {xs:List AV} (hrun:(execOp a.eval o).run P w= .ok (.enter g us.toArray) w) (M:b7 F S β hp w) (hl:us.length=xs.length) (hV:∀(i:Nat) v x,us[i]? =some v→xs[i]? =some x→V S β w v x)
  (hr:(mE P (.bZ g [] []) xs sc).bL (ae hp)=some (res,rd)) (hc:∀c,c∈res.cs→c.p) (hn:∀id,id∈res.dN→ae hp id=none):b9 P F S β hp w a o res:=by
 cases sc with
 |nil=>cases hr
 |cons dd sc'=>
  cases dd with
  |dO r ids upd=>
   simp only [mE] at hr
   cases hfn:P.funcs[g]? with
   |none=>rw [hfn] at hr;cases hr
   |some fn=>
    rw [hfn] at hr
    simp only at hr
    by_cases hb:fn.body.isSome∧fn.name≠ "runtime.NumGoroutine"
    ·rw [if_pos hb] at hr
     obtain ⟨pre,rd',i1,i2,i3⟩:=pY ids _ hr
     injection i3 with i3;injection i3 with i3 _;subst i3
     have hspec:bK P g ([]++xs++[]) pre r upd:=hc _ (List.mem_singleton.2 rfl)
     rw [List.nil_append,List.append_nil] at hspec
     intro K Q hK
     rw [hrun]
     simp only [Oper.upon]
     refine (hspec F S β hp w _ M hl hV i2 (fun id ob h1 h2=>hn id ?_)).mono ?_
     ·grind
     ·rintro e w' ⟨v,S',β',rfl,E,M',hv'⟩
      exact hK v w' S' β' E M' hv'
    ·rw [if_neg hb] at hr;cases hr
  |_=>cases hr
theorem xH {g:FuncId} {xs:List AV} (hr:(mE P (.bZ g [] []) xs sc).bL (ae hp)=some (res,rd)):∃fn,P.funcs[g]? =some fn∧fn.body.isSome=true∧fn.name≠ "runtime.NumGoroutine" :=by
 cases sc with
 |nil=>cases hr
 |cons dd sc'=>
  cases dd with
  |dO r ids upd=>
   simp only [mE] at hr
   cases hfn:P.funcs[g]? with
   |none=>rw [hfn] at hr;cases hr
   |some fn=>
    rw [hfn] at hr
    simp only at hr
    by_cases hb:fn.body.isSome∧fn.name≠ "runtime.NumGoroutine"
    ·grind
    ·rw [if_neg hb] at hr;cases hr
  |_=>cases hr
theorem vB {t:TypeId} {name:String} {g:FuncId} (h:mJ P t name=some g) (k:Nat) (v:Value):(method (k+1) t v name).run P w= .ok (g,v) w:=by
 unfold mJ at h
 cases hi:P.info? t with
 |none=>grind
 |some i=>
  rw [hi] at h
  simp only at h
  cases hm:i.methods.find? (·.name==name) with
  |none=>grind
  |some m=>
   rw [hm] at h
   simp only at h
   by_cases hp:m.path.toList.isEmpty=true
   ·rw [if_pos hp] at h
    have hp':m.path.toList=[]:=by grind
    have hpe:m.path= #[]:=by grind
    cases hf:m.func with
    |none=>grind
    |some q=>
     obtain ⟨f,b⟩:=q
     rw [hf] at h
     have hu:P.underlying t=P.underlying t:=rfl
     cases hd:P.underlying t with
     |none=>grind
     |some d=>
      rw [hd] at h
      have hinfo:(typeInfo t).run P w= .ok i w:=by simp [typeInfo,hi]
      cases b with
      |true=>
       cases d with
       |pointer e=>
        simp_all[Option.some.injEq,method,follow,receiverAt,run_underlying,Place.get]
       |_=>grind
      |false=>
       cases d with
       |pointer e=>grind
       |_=>
        simp_all[Option.some.injEq,method,follow,receiverAt,run_underlying,Place.get]
   grind
theorem AI {x:Operand} {args:Array Operand} {ts:Array TypeId} {name:String} {X:AV} {xs:List AV} (ho:o.op= .call ⟨.invoke x name,args,ts⟩) (M:b7 F S β hp w) (hf:V S β w (a.eval x) X) (hx:bY S β w (args.toList.map a.eval) xs)
  (hr:(pu P name X xs sc).bL (ae hp)=some (res,rd)) (hc:∀c,c∈res.cs→c.p) (hn:∀id,id∈res.dN→ae hp id=none):b9 P F S β hp w a o res:=by
 cases X with
 |bu t v=>
  simp only [pu] at hr
  cases hm:mJ P t name with
  |none=>rw [hm] at hr;cases hr
  |some g=>
   rw [hm] at hr
   simp only at hr
   generalize hv:a.eval x=u at hf
   cases hf with
   |bu _ u' _ hu=>
    obtain ⟨fn,f1,f2,f3⟩:=xH hr
    refine Ci (g:=g) (us:=u'::args.toList.map a.eval) ?_ M (by simp [hx.1]) (fun i v' x' h1 h2=> ?_) hr hc hn
    ·have hbody2:¬fn.body=none:=by grind
     have hmm:=vB (w:=w) hm (P.types.size+Made.depth-1) u'
     have hk:P.types.size+Made.depth-1+1=P.types.size+Made.depth:=by rfl
     rw [hk] at hmm
     have h0:(#[Value.iface t u']++Array.map a.eval args)[0]? =some (.iface t u'):=by grind
     have hex:(Array.map a.eval args).extract 0 args.size=Array.map a.eval args:=by
      simp
     simp [execOp,ho,resolve,hv,invoke,h0,callMethod,run_program,hmm,callFunc,f1,f3,hbody2,hex]
    ·cases i with
     |zero=>grind
     |succ i=>exact hx.2 i v' x' (by grind) (by grind)
 |_=>cases hr
theorem y5 {d:Nat} {X:AV} {v:Value} {t:TypeId} (M:b7 F S β hp w) (hd:ae hp d=none) (hv:V S β w v X) (hX:cx X=false) (hno:nJ X.ac=false):
  ∃S' β',lg S S' β β' w (w.alloc (.cells v.cells t))∧b7 F S' β' (ba hp d (.an X.ac)) (w.alloc (.cells v.cells t))∧V S' β' (w.alloc (.cells v.cells t)) (.pointer (some ⟨w.heap.size,0,none⟩)) (.aA d 0 0):=by
 have hne:X≠ .aB:=by rintro rfl;cases hX
 obtain ⟨h1,h2⟩:=hv.ac hne
 have hsz:X.ac.length=v.cells.size:=h1.symm
 have hob:HO S (β.nM d ⟨w.heap.size,X.ac.length,1⟩) (w.alloc (.cells v.cells t)) d (.an X.ac):=by
  refine ⟨_,bn.cV _ _ _,rfl,v.cells,t,heap_alloc_new w _,by grind,by simp,by simp [maxLen],fun i e he=> ?_,fun i j e c he hc=> ?_⟩
  ·cases i with
   |zero=>simp at he;subst he;rfl
   |succ i=>grind
  ·cases i with
   |zero=>
    simp at he
    subst he
    obtain ⟨u,hu,hV⟩:=h2 j c hc
    refine ⟨u,by grind,hV.bR (fun _ h=>h) (bn.dQ (M.ff hd)) (fun b hb=>heap_alloc_old w _ (M.sub b hb))⟩
   |succ i=>grind
 obtain ⟨E,M'⟩:=M.yY hd (.cells v.cells t) (.an X.ac) (fun j sz es=>AG hno) X.ac.length 1 hob
 refine ⟨S,_,E,M',?_⟩
 have:=V.aA (S:=S) (β:=β.nM d ⟨w.heap.size,X.ac.length,1⟩) (w:=w.alloc (.cells v.cells t)) d 0 0 _ (bn.cV _ _ _)
 grind
theorem pX {d:Nat} {X:AV} (h:(jY d X sc).bL (ae hp)=some (res,rd)):res.v= .aA d 0 0∧res.eH=[(d,.an X.ac)]∧res.dN=[d]∧nJ X.ac=false:=by
 unfold jY at h
 by_cases hb:nJ X.ac=true
 ·rw [if_pos hb] at h;cases h
 ·rw [if_neg hb] at h
  injection h with h;grind
theorem Km {t:TypeId} {x:Operand} {d:Nat} {X:AV} (ho:o.op= .box t x) (M:b7 F S β hp w) (hx:V S β w (a.eval x) X) (hX:cx X=false) (hr:(jY d X sc).bL (ae hp)=some (res,rd))
  (hn:∀id,id∈res.dN→ae hp id=none):b9 P F S β hp w a o res:=by
 obtain ⟨e1,e2,e3,e4⟩:=pX hr
 obtain ⟨S',β',E,M',hv⟩:=y5 (t:=t) M (hn d (by grind)) hx hX e4
 refine bM (v:= .pointer (some ⟨w.heap.size,0,none⟩)) (w':=w.alloc (.cells (a.eval x).cells t)) ?_ E (by rw [e2];exact M') (by grind)
 simp_all[execOp,Instr.box,Go.newVar,newRow]
theorem ia {t:TypeId} {z:AV} (h:dw P t=some z):∃v,(zeroValue t).run P w= .ok v w∧V S β w v z∧∃i,P.info? t=some i∧i.zero=some v:=by
 unfold dw at h
 obtain ⟨v,hv,rfl⟩:=Option.map_eq_some_iff.1 h
 obtain ⟨i,hi,hz⟩:=Option.bind_eq_some_iff.1 hv
 simp_all[zeroValue,typeInfo,mM]
theorem Ch {t:TypeId} {d:Nat} {X:AV} (ho:o.op= .alloc t) (M:b7 F S β hp w) (hz:dw P t=some X) (hX:cx X=false) (hr:(jY d X sc).bL (ae hp)=some (res,rd))
  (hn:∀id,id∈res.dN→ae hp id=none):b9 P F S β hp w a o res:=by
 obtain ⟨e1,e2,e3,e4⟩:=pX hr
 obtain ⟨v,hrun,hv,_⟩:=ia (S:=S) (β:=β) (w:=w) hz
 obtain ⟨S',β',E,M',hv⟩:=y5 (t:=t) M (hn d (by grind)) hv hX e4
 refine bM (v:= .pointer (some ⟨w.heap.size,0,none⟩)) (w':=w.alloc (.cells v.cells t)) ?_ E (by rw [e2];exact M') (by grind)
 simp_all[execOp,Instr.alloc,Go.newVar,newRow]
end
end
section
section
variable {P:Program} {F:Fr} {S:df} {β:bn} {hp:List (Nat×Ob)} {w:World} {a:Act} {o:Oper} {res:dT} {rd:List Nat} {sc:List cv}
theorem gF {α:Type} (cs xs:List α) (off j:Nat) (h:off+xs.length≤cs.length):
  (cs.take off++xs++cs.drop (off+xs.length))[j]? =if j<off then cs[j]? else if j<off+xs.length then xs[j-off]? else cs[j]? :=by
 grind
theorem d' (g:Nat) (cur:Array Value) {bi:Bl} (h:bi.bG=g):mK bi w (w.setRow g cur):=by
 refine ⟨rfl,rfl,rfl,by simp,fun b hb hne=> ?_⟩
 simp only [World.setRow,Array.getElem?_modify]
 grind
theorem sC {v:Value} {c:AV} (h:V S β w v c) (hs:cj c=true):v.oneCell'=true:=by
 cases h<;>first
  |rfl
  |(cases hs;done)
theorem HR.Ux {bi:Bl} {es:List AV} (h:HR S β w bi es) (hS:¬S bi.bG) {k off:Nat} {e e':AV} (he:es[k]? =some e) {vs:List Value} {xs:List AV} (hx:bY S β w vs xs) (hs:∀c,c∈xs→cj c=true)
  (hl:off+xs.length≤e.ac.length) (he':e'.ac=ef e.ac off xs):
  ∃cur',(storeCells ⟨bi.bG,k*bi.sz+off,none⟩ vs).run P w= .ok () (w.setRow bi.bG cur')∧HR S β (w.setRow bi.bG cur') bi (es.set k e')∧∀m,m<k*bi.sz+off∨k*bi.sz+off+xs.length≤m→e8 (w.setRow bi.bG cur') bi.bG m=e8 w bi.bG m:=by
 obtain ⟨cur,t,h1,h2,h3,h4,h5,h6⟩:=h
 have hsz:e.ac.length=bi.sz:=h5 k e he
 have hk:k<es.length:=(List.getElem?_eq_some_iff.1 he).1
 have hkc:k+1≤bi.f5:=by omega
 have hmul:k*bi.sz+bi.sz≤cur.size:=by
  rw [h2]
  have:=Nat.mul_le_mul_right bi.sz hkc
  grind
 have hvl:vs.length=xs.length:=hx.1
 have hfit:k*bi.sz+off+vs.length≤cur.size:=by omega
 have h1c:∀v,v∈vs→v.oneCell'=true:=by
  intro v hv
  obtain ⟨i,hi⟩:=List.mem_iff_getElem?.1 hv
  have hilt:i<vs.length:=(List.getElem?_eq_some_iff.1 hi).1
  have hxi:xs[i]? =some (xs[i]'(by omega)):=List.getElem?_eq_getElem (by omega)
  exact sC (hx.2 i v _ hi hxi) (hs _ (List.mem_of_getElem? hxi))
 have hget0:∀m,(cur.toList.take (k*bi.sz+off)++vs++cur.toList.drop (k*bi.sz+off+vs.length)).toArray[m]? =if m<k*bi.sz+off then cur[m]? else if m<k*bi.sz+off+vs.length then vs[m-(k*bi.sz+off)]? else cur[m]? :=by
  intro m
  have:=gF cur.toList vs (k*bi.sz+off) m (by omega)
  grind
 refine ⟨(cur.toList.take (k*bi.sz+off)++vs++cur.toList.drop (k*bi.sz+off+vs.length)).toArray,?_,?_,fun m hm=> ?_⟩
 ·have:=run_storeCells_at P bi.bG (k*bi.sz+off) t vs 0 cur w h1 (by omega) h1c
  omega
 ·have hg':(w.setRow bi.bG (cur.toList.take (k*bi.sz+off)++vs++cur.toList.drop (k*bi.sz+off+vs.length)).toArray).heap[bi.bG]? =some (.cells (cur.toList.take (k*bi.sz+off)++vs++cur.toList.drop (k*bi.sz+off+vs.length)).toArray t (0,0)):=
   setRow_heap w bi.bG cur _ t (0,0) h1
  have hagr:nI S w (w.setRow bi.bG (cur.toList.take (k*bi.sz+off)++vs++cur.toList.drop (k*bi.sz+off+vs.length)).toArray):=by
   intro b hb
   simp only [World.setRow,Array.getElem?_modify]
   grind
  have hel:e'.ac.length=bi.sz:=by
   grind[ef,List.length_append,List.length_take,List.length_drop]
  refine ⟨_,t,hg',?_,by grind,h4,fun i x hx'=> ?_,fun i j x c hx' hc=> ?_⟩
  ·grind
  ·grind
  ·have hget:∀m,(cur.toList.take (k*bi.sz+off)++vs++cur.toList.drop (k*bi.sz+off+vs.length)).toArray[m]? =if m<k*bi.sz+off then cur[m]? else if m<k*bi.sz+off+vs.length then vs[m-(k*bi.sz+off)]? else cur[m]? :=by
    omega
   rw [List.getElem?_set] at hx'
   by_cases hki:k=i
   ·subst hki
    rw [if_pos rfl,if_pos hk] at hx'
    injection hx' with hx'
    subst hx'
    rw [he',ef,gF _ _ _ _ hl] at hc
    by_cases c1:j<off
    ·rw [if_pos c1] at hc
     obtain ⟨u,hu,hV⟩:=h6 k j e c he hc
     exact ⟨u,by grind,hV.bR (fun _ h=>h) (fun _ _ h=>h) hagr⟩
    ·rw [if_neg c1] at hc
     by_cases c2:j<off+xs.length
     ·rw [if_pos c2] at hc
      have hvj:vs[j-off]? =some (vs[j-off]'(by omega)):=List.getElem?_eq_getElem (by omega)
      refine ⟨_,?_,(hx.2 _ _ c hvj hc).bR (fun _ h=>h) (fun _ _ h=>h) hagr⟩
      rw [hget,if_neg (by omega),if_pos (by omega),←hvj]
      congr 1
      omega
     ·rw [if_neg c2] at hc
      obtain ⟨u,hu,hV⟩:=h6 k j e c he hc
      exact ⟨u,by grind,hV.bR (fun _ h=>h) (fun _ _ h=>h) hagr⟩
   ·rw [if_neg hki] at hx'
    obtain ⟨u,hu,hV⟩:=h6 i j x c hx' hc
    have hxl:=h5 i x hx'
    have hjl:j<bi.sz:=by grind
    refine ⟨u,?_,hV.bR (fun _ h=>h) (fun _ _ h=>h) hagr⟩
    rw [hget,←hu]
    by_cases c1:i*bi.sz+j<k*bi.sz+off
    ·grind
    ·rw [if_neg c1,if_neg]
     intro c2
     rcases Nat.lt_or_gt_of_ne hki with h|h
     ·have:=Nat.mul_le_mul_right bi.sz (show k+1≤i by omega)
      grind
     ·have:=Nat.mul_le_mul_right bi.sz (show i+1≤k by omega)
      grind
 ·unfold e8
  rw [setRow_heap w bi.bG cur _ t (0,0) h1,h1]
  grind
theorem nQ {v:Value} {x:AV} (h:V S β w v x) (hx:x≠ .aB):bY S β w v.cells.toList x.ac:=by
 obtain ⟨h1,h2⟩:=h.ac hx
 refine ⟨by omega,fun i u c hi hc=> ?_⟩
 grind
theorem xI {x:AV} (h:x.ac.all cj=true):x≠ .aB:=by rintro rfl;cases h
theorem Ck {t:TypeId} {x y:Operand} {p X:AV} (ho:o.op= .store t x y) (M:b7 F S β hp w) (hp':V S β w (a.eval x) p) (hx:V S β w (a.eval y) X) (hr:(xy P t p X sc).bL (ae hp)=some (res,rd)) (hc:∀c,c∈res.cs→c.p):
  b9 P F S β hp w a o res:=by
 unfold xy at hr
 by_cases hsol:X.ac.all cj=false
 ·rw [if_pos hsol] at hr;cases hr
 rw [if_neg hsol] at hr
 have hsol:X.ac.all cj=true:=by grind
 have hXs:∀c,c∈X.ac→cj c=true:=List.all_eq_true.1 hsol
 by_cases hsz:cJ P t≠some X.ac.length
 ·rw [if_pos hsz] at hr;cases hr
 rw [if_neg hsz] at hr
 have hsz:cJ P t=some X.ac.length:=Decidable.not_not.1 hsz
 have hE:=nQ hx (xI hsol)
 have hvsz:(a.eval y).cells.size=X.ac.length:=by have:=hE.1;omega
 have fin:∀{id k off:Nat} {bi:Bl} {ob ob':Ob} {es es':List AV} {e:AV},a.eval x= .pointer (some ⟨bi.bG,k*bi.sz+off,none⟩)→β id=some bi→ae hp id=some ob→ob≠ .aB→HR S β w bi es→es[k]? =some e→
   off+X.ac.length≤e.ac.length→(∀w',HR S β w' bi (es.set k (.al (ef e.ac off X.ac)))→HO S β w' id ob')→
   (∀j sz es,ob'.at j=some (.aX sz es)→ob.at j=some (.aX sz es)∧(j<k*bi.sz+off∨k*bi.sz+off+X.ac.length≤j))→res.v= .aB→res.eH=[(id,ob')]→b9 P F S β hp w a o res:=by
  intro id k off bi ob ob' es es' e hv hb hl hd hHR hek hle hmk how e1 e2
  obtain ⟨cur',r1,r2,r3⟩:=hHR.Ux (P:=P) (M.aX id bi hb).1 (e':= .al (ef e.ac off X.ac)) hek hE hXs hle rfl
  obtain ⟨E,M'⟩:=M.cR hb hl hd (d' bi.bG cur' rfl) ob' (hmk _ r2) (fun j sz es h=>⟨(how j sz es h).1,r3 j (how j sz es h).2⟩)
  refine pz (w':=w.setRow bi.bG cur') ?_ E (by rw [e2];exact M') e1
  have:(Instr.storeAt t (.pointer (some ⟨bi.bG,k*bi.sz+off,none⟩)) (a.eval y)).run P w= .ok () (w.setRow bi.bG cur'):=by
   simp_all[Instr.storeAt,Instr.sureAddr,storeVar,cW]
  simp_all[execOp]
 cases p with
 |aA id k off=>
  simp only [Rd.bL] at hr
  cases hl:ae hp id with
  |none=>grind
  |some ob=>
   rw [hl] at hr
   have hob:=M.dg id ob hl
   generalize hv:a.eval x=v at hp'
   cases hp' with
   |aA _ _ _ bi hb=>
    cases ob with
    |an cs=>
     simp only at hr
     by_cases hk:k=0∧off+X.ac.length≤cs.length
     ·rw [if_pos hk] at hr
      injection hr with hr;injection hr with hr _;subst hr
      obtain ⟨bj,q1,q2,q3⟩:=hob
      rw [hb] at q1;injection q1 with q1;subst q1
      obtain ⟨rfl,hle⟩:=hk
      exact fin (ob':= .an (ef cs off X.ac)) (es:=[.al cs]) (es':=[]) (e:= .al cs) hv hb hl (by simp) q3 rfl hle (fun w' h=>⟨bi,hb,q2,h⟩) (fun j sz es hj=>by
       simp only [Ob.at,ef] at hj⊢
       rw [gF _ _ _ _ hle] at hj
       rw [Nat.zero_mul,Nat.zero_add]
       by_cases c1:j<off
       ·grind
       ·rw [if_neg c1] at hj
        by_cases c2:j<off+X.ac.length
        ·rw [if_pos c2] at hj
         have:=hXs _ (List.mem_of_getElem? hj)
         cases this
        grind) rfl rfl
     ·rw [if_neg hk] at hr;cases hr
    |aw sz es=>
     simp only at hr
     obtain ⟨bj,q1,q2,q3⟩:=hob
     rw [hb] at q1;injection q1 with q1;subst q1
     by_cases hw:off=0∧X.ac.length=sz
     ·rw [if_pos hw] at hr
      injection hr with hr;injection hr with hr _;subst hr
      have hk:k<es.length:=hc _ (List.mem_singleton.2 rfl)
      obtain ⟨rfl,hXl⟩:=hw
      have hek:es[k]? =some es[k]:=List.getElem?_eq_getElem hk
      have hcl:es[k].ac.length=bi.sz:=by obtain ⟨_,_,_,_,_,_,h5,_⟩:=q3;grind
      have hover:ef es[k].ac 0 X.ac=X.ac:=by
       grind[ef,List.drop_of_length_le]
      refine fin (ob':= .aw sz (es.set k X)) (es:=es) (es':=[]) (e:=es[k]) hv hb hl (by simp) q3 hek (by omega) (fun w' h=>⟨bi,hb,q2,?_⟩) (fun j sz es hj=>by cases hj) rfl rfl
      rw [hover] at h
      obtain ⟨cur,ty,h1,h2,h3,h4,h5,h6⟩:=h
      refine ⟨cur,ty,h1,h2,by grind,h4,fun i z hz=> ?_,fun i j z c hz hc=> ?_⟩
      ·by_cases hki:k=i
       ·grind
       ·exact h5 i z (by grind)
      ·by_cases hki:k=i
       ·subst hki
        rw [List.getElem?_set,if_pos rfl,if_pos hk] at hz
        injection hz with hz
        subst hz
        exact h6 k j (.al X.ac) c (by grind) hc
       ·exact h6 i j z c (by grind) hc
     ·rw [if_neg hw] at hr
      cases sc with
      |nil=>cases hr
      |cons dd sc'=>
       cases dd with
       |aA e=>
        simp only at hr
        by_cases hle:off+X.ac.length≤e.ac.length
        ·rw [if_pos hle] at hr
         injection hr with hr;injection hr with hr _;subst hr
         have hek:es[k]? =some e:=hc _ (List.mem_singleton.2 rfl)
         exact fin (ob':= .aw sz (es.set k (.al (ef e.ac off X.ac)))) (es:=es) (es':=[]) (e:=e) hv hb hl (by simp) q3 hek hle (fun w' h=>⟨bi,hb,q2,h⟩) (fun j sz es hj=>by cases hj) rfl rfl
        ·rw [if_neg hle] at hr;cases hr
       |_=>cases hr
    |ao sz es=>
     simp only at hr
     by_cases hw:off=0∧X.ac.length=sz
     ·rw [if_pos hw] at hr
      injection hr with hr;injection hr with hr _;subst hr
      have hk:k<es.length:=hc _ (List.mem_singleton.2 rfl)
      rcases hob with h0|⟨bj,q1,q2,q3⟩
      ·grind
      rw [hb] at q1;injection q1 with q1;subst q1
      obtain ⟨rfl,hXl⟩:=hw
      have hek:es[k]? =some es[k]:=List.getElem?_eq_getElem hk
      have hcl:es[k].ac.length=bi.sz:=by obtain ⟨_,_,_,_,_,_,h5,_⟩:=q3;grind
      have hover:ef es[k].ac 0 X.ac=X.ac:=by
       grind[ef,List.drop_of_length_le]
      refine fin (ob':= .ao sz (es.set k X)) (es:=es) (es':=[]) (e:=es[k]) hv hb hl (by simp) q3 hek (by omega) (fun w' h=> .inr ⟨bi,hb,q2,?_⟩) (fun j sz es hj=>by cases hj) rfl rfl
      rw [hover] at h
      obtain ⟨cur,ty,h1,h2,h3,h4,h5,h6⟩:=h
      refine ⟨cur,ty,h1,h2,by grind,h4,fun i z hz=> ?_,fun i j z c hz hc=> ?_⟩
      ·by_cases hki:k=i
       ·grind
       ·exact h5 i z (by grind)
      ·by_cases hki:k=i
       ·subst hki
        rw [List.getElem?_set,if_pos rfl,if_pos hk] at hz
        injection hz with hz
        subst hz
        exact h6 k j (.al X.ac) c (by grind) hc
       ·exact h6 i j z c (by grind) hc
     ·rw [if_neg hw] at hr;cases hr
    |aI ks vs=>cases hr
    |iw o=>cases hr
    |aB=>cases hr
 |_=>cases hr
end
end
end Go.Ped
