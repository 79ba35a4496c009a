/-
  The contract of 'slices.Sorted(maps.Keys(m))' for the interpreter: a map whose keys are texts that are told.
-/
import Derived.Test.YthhfolohakiemaaGreatDoorInt
import Derived.Test.YthhfolohakiemaaGreatDoorThaw
import Derived.Shelf.SlIter.Sorted
set_option linter.unusedVariables false
namespace Go.Ped
open Go.RowKit Go.Maps Go.Sort Go.ChangeMaps
open Go.WideElems (Fit rd rg rd_mk rg_of)
open Go.Proofs (encStr)

/-- The texts of a list. -/
def textsA : List AV → Option (List (List UInt8))
  | [] => some []
  | .str s :: r => match textsA r with
    | some l => some (s.data.toList :: l)
    | none => none
  | _ => none

def insT (x : List UInt8) : List (List UInt8) → List (List UInt8)
  | [] => [x]
  | y :: r => bif leB x y then x :: y :: r else y :: insT x r

def sortT : List (List UInt8) → List (List UInt8)
  | [] => []
  | x :: r => insT x (sortT r)

theorem leB_total (a b : List UInt8) : leB a b = true ∨ leB b a = true := by
  simp only [leB, decide_eq_true_eq]; exact List.le_total a b
theorem leB_trans {a b c : List UInt8} (h1 : leB a b = true) (h2 : leB b c = true) : leB a c = true := by
  simp only [leB, decide_eq_true_eq] at *; exact List.le_trans h1 h2

theorem insT_perm (x : List UInt8) : ∀ (l : List (List UInt8)), (insT x l).Perm (x :: l)
  | [] => .refl _
  | y :: r => by
    simp only [insT]
    cases h : leB x y with
    | true => exact .refl _
    | false => exact ((insT_perm x r).cons y).trans (.swap x y r)

theorem insT_sorted (x : List UInt8) : ∀ (l : List (List UInt8)), l.Pairwise (fun a b => leB a b = true) → (insT x l).Pairwise (fun a b => leB a b = true)
  | [], _ => by simp [insT]
  | y :: r, h => by
    simp only [insT]
    cases hx : leB x y with
    | true =>
      refine List.pairwise_cons.2 ⟨fun b hb => ?_, h⟩
      rcases List.mem_cons.1 hb with rfl | hb
      · exact hx
      · exact leB_trans hx ((List.pairwise_cons.1 h).1 b hb)
    | false =>
      obtain ⟨h1, h2⟩ := List.pairwise_cons.1 h
      refine List.pairwise_cons.2 ⟨fun b hb => ?_, insT_sorted x r h2⟩
      rcases List.mem_cons.1 ((insT_perm x r).mem_iff.1 hb) with rfl | hb
      · rcases leB_total b y with h | h
        · rw [hx] at h; cases h
        · exact h
      · exact h1 b hb

theorem sortT_perm : ∀ (l : List (List UInt8)), (sortT l).Perm l
  | [] => .refl _
  | x :: r => (insT_perm x _).trans ((sortT_perm r).cons x)

theorem sortT_sorted : ∀ (l : List (List UInt8)), (sortT l).Pairwise (fun a b => leB a b = true)
  | [] => List.Pairwise.nil
  | x :: r => insT_sorted x _ (sortT_sorted r)

/-- There is one way to stand in order. -/
theorem sortT_eq {l l' : List (List UInt8)} (h : l.Perm l') : l.mergeSort leB = sortT l' := by
  have tr : ∀ a b c : List UInt8, leB a b = true → leB b c = true → leB a c = true := fun a b c => leB_trans
  have to : ∀ a b : List UInt8, (leB a b || leB b a) = true := fun a b => by rw [Bool.or_eq_true]; exact leB_total a b
  refine List.Perm.eq_of_pairwise (le := fun a b => leB a b = true) (fun a b _ _ h1 h2 => ?_) (List.pairwise_mergeSort tr to l) (sortT_sorted l') (((List.mergeSort_perm l leB).trans h).trans (sortT_perm l').symm)
  simp only [leB, decide_eq_true_eq] at h1 h2
  exact List.le_antisymm h1 h2

/-- What 'slices.Sorted' (function f) gives of the keys of a map, asked by the iterator (function it). -/
def sortedK (f it : Nat) : Handler := fun g xs pre nb =>
  bif Nat.beq g f then
    match xs with
    | [.clo i [] [.elt b 0 0]] => bif Nat.beq i it then
        match look pre b with
        | some (.var [.map m]) => (match look pre m with
          | some (.map ks _) => (match textsA ks with
            | some ts => bif ts.all (fun t => Nat.ble t.length 1000) && Nat.ble ts.length 1000 then some (.seq ((sortT ts).map fun l => .str ⟨l.toArray⟩) false, [], nb) else none
            | none => none)
          | _ => none)
        | _ => none
      else none
    | _ => none
  else none

theorem textsA_spec : ∀ {ks : List AV} {ts : List (List UInt8)}, textsA ks = some ts → ks = ts.map fun l => .str ⟨l.toArray⟩
  | [], ts, h => by simp only [textsA] at h; injection h with h; subst h; rfl
  | .str s :: r, ts, h => by
    simp only [textsA] at h
    split at h
    · rename_i l hl
      injection h with h
      subst h
      rw [List.map_cons, ← textsA_spec hl]
    · cases h
  | .int _ _ :: _, _, h => by simp [textsA] at h
  | .bool _ :: _, _, h => by simp [textsA] at h
  | .agg _ :: _, _, h => by simp [textsA] at h
  | .tup _ :: _, _, h => by simp [textsA] at h
  | .seq _ _ :: _, _, h => by simp [textsA] at h
  | .nils :: _, _, h => by simp [textsA] at h
  | .row _ _ _ :: _, _, h => by simp [textsA] at h
  | .tptr _ :: _, _, h => by simp [textsA] at h
  | .elt _ _ _ :: _, _, h => by simp [textsA] at h
  | .nilp :: _, _, h => by simp [textsA] at h
  | .map _ :: _, _, h => by simp [textsA] at h
  | .tmap _ _ :: _, _, h => by simp [textsA] at h
  | .nilmap :: _, _, h => by simp [textsA] at h
  | .clo _ _ _ :: _, _, h => by simp [textsA] at h
  | .nilf :: _, _, h => by simp [textsA] at h
  | .iface _ _ :: _, _, h => by simp [textsA] at h
  | .nili :: _, _, h => by simp [textsA] at h
  | .dead :: _, _, h => by simp [textsA] at h

/-- How the map's values are read: not at all. -/
def anyR : Value → Option (DataW Unit × List MemPlace) := fun _ => some (.lit (.bool false), [])

section
variable {P : Program}

theorem Mem.more {F : Fr} {S : Blk} {β : Beta} {hp : List (Nat × Ob)} {w : World} {n g : Nat} (M : Mem F S β hp w) (hg : n ≤ g) (hlt : g < w.heap.size) (hi : ∀ i bi, β i = some bi → bi.blk < n) (hn : F.w0.heap.size ≤ n) : Mem F (fun b => S b ∨ b = g) β hp w := by
  refine ⟨M.tab, M.os, M.tape, M.output, M.size, M.keep, fun id o ho => (M.obs id o ho).mono (fun _ h => .inl h) (fun _ _ h => h) (Agr.refl _ w) (fun _ _ => rfl), M.dom, M.inj, fun i bi hb => ?_, fun b hb => ?_, fun b hb => .inl (M.base b hb), fun b hb => ?_, M.giv⟩
  · obtain ⟨a, b, c⟩ := M.own i bi hb
    refine ⟨?_, b, c⟩
    rintro (h | h)
    · exact a h
    · have := hi i bi hb; omega
  · rcases hb with hb | rfl
    · exact M.sub b hb
    · exact hlt
  · rcases hb with hb | rfl
    · exact M.new b hb
    · exact .inr (Nat.le_trans hn hg)

/-- What the shelf says of the call. -/
def SortedSaid (P : Program) (f it kt : Nat) : Prop :=
  ∀ (Bm b nn : Nat) (D0 : DataW Unit) (w : World), Bm < w.heap.size → w.cell? ⟨Bm, 0, none⟩ = some (.map (some b)) → w.ownsMap P kt anyR b nn D0 → Maps.size D0 ≤ maxLen → Maps.size D0 * 16 ≤ 140737488355328 →
    Calls P f #[.func (.func it) #[] #[.pointer (some ⟨Bm, 0, none⟩)]] w fun e w' => ∃ (v : Value) (ss : List (List UInt8)), e = .returned v ∧ ss.Perm (strKeys D0) ∧
      w'.ownsRow w.heap.size kt 1 v ss.length ((ss.mergeSort leB).map encStr) ∧ Go.RowKit.Below w.heap.size w w'

theorem sortedK_ok {f it kt : Nat} (hk : P.underlying kt = some .string) (hS : SortedSaid P f it kt) : (sortedK f it).ok P := by
  intro g xs pre nb r upd nb' h
  unfold sortedK at h
  cases hg : Nat.beq g f with
  | false => rw [hg] at h; cases h
  | true =>
    rw [hg] at h
    simp only [cond_true] at h
    have hgf : g = f := Nat.eq_of_beq_eq_true hg
    subst hgf
    split at h
    · rename_i i b
      cases hi : Nat.beq i it with
      | false => rw [hi] at h; cases h
      | true =>
        rw [hi] at h
        simp only [cond_true] at h
        have hii : i = it := Nat.eq_of_beq_eq_true hi
        subst hii
        split at h
        · rename_i m hb
          split at h
          · rename_i ks vals hm
            split at h
            · rename_i ts hts
              cases hsz : (ts.all (fun t => Nat.ble t.length 1000) && Nat.ble ts.length 1000) with
              | false => rw [hsz] at h; cases h
              | true =>
                rw [hsz] at h
                simp only [cond_true] at h
                injection h with h
                simp only [Prod.mk.injEq] at h
                obtain ⟨rfl, rfl, rfl⟩ := h
                rw [Bool.and_eq_true] at hsz
                have hlen : ∀ t, t ∈ ts → t.length ≤ 1000 := fun t ht => Nat.le_of_ble_eq_true (List.all_eq_true.1 hsz.1 t ht)
                have hlen2 : ts.length ≤ 1000 := Nat.le_of_ble_eq_true hsz.2
                have hks := textsA_spec hts
                intro F S β hp w vs M hvl hV hpre hupd
                -- the arguments
                match vs, hvl with
                | [v0], _ =>
                have hv0 := hV 0 v0 _ rfl rfl
                cases hv0 with
                | clo _ fs gs _ _ hf hg hfv hgv =>
                match fs, gs, hf, hg with
                | [], [u0], _, _ =>
                have hu0 := hgv 0 u0 _ rfl rfl
                cases hu0 with
                | elt _ _ _ bi hbi =>
                have hb' := hpre b _ (look_mem hb)
                have hm' := hpre m _ (look_mem hm)
                obtain ⟨bj, q1, q2, cur, ty, r1, r2, r3, r4, r5, r6⟩ := M.obs b _ hb'
                rw [hbi] at q1; injection q1 with q1; subst q1
                obtain ⟨u1, hu1, hVu⟩ := r6 0 0 (.agg [.map m]) (.map m) rfl rfl
                cases hVu with
                | map _ bm hbm =>
                obtain ⟨bm', es, cl, t1, t2, t3, t4, t5, t6, t7⟩ := M.obs m _ hm'
                rw [hbm] at t1; injection t1 with t1; subst t1
                have hst : MapKept.Stamped es cl := t7 (by rw [hks, List.all_map]; exact List.all_eq_true.2 fun _ _ => rfl)
                -- the keys
                have hkey : ∀ (j : Nat) e, es[j]? = some e → ∃ t, ts[j]? = some t ∧ e.key = encStr t := by
                  intro j e he
                  have hj : j < ts.length := by
                    have h1 := (Array.getElem?_eq_some_iff.1 he).1
                    have h2 : ks.length = ts.length := by rw [hks, List.length_map]
                    omega
                  have hkj : ks[j]? = some (.str ⟨(ts[j]).toArray⟩) := by rw [hks, List.getElem?_map, List.getElem?_eq_getElem hj]; rfl
                  have hv := t5 j e _ he hkj
                  generalize e.key = ek at hv
                  cases hv
                  exact ⟨ts[j], List.getElem?_eq_getElem hj, rfl⟩
                have hread : ∀ (j : Nat) e, es[j]? = some e → ∃ t, ts[j]? = some t ∧ rd P kt anyR e = some (.string t, .lit (.bool false)) := by
                  intro j e he
                  obtain ⟨t, h1, h2⟩ := hkey j e he
                  refine ⟨t, h1, ?_⟩
                  have ht := hlen t (List.mem_of_getElem? h1)
                  have hko : keyOf P kt e.key = some (.string t) := by
                    rw [h2]
                    have hsz' : (⟨t.toArray⟩ : ByteArray).size = t.length := by
                      show t.toArray.size = t.length
                      simp
                    simp only [keyOf, hk, mapKey, encStr]
                    rw [if_pos (by rw [hsz']; simp only [maxLen]; omega)]
                  obtain ⟨ek, ev, eb⟩ := e
                  exact rd_mk (R := anyR) hko rfl
                have hfit : Fit P kt anyR es cl := by
                  refine ⟨by simp only [maxLen]; have h2 : ks.length = ts.length := by rw [hks, List.length_map]
                             omega, hst, fun x hx => ?_⟩
                  obtain ⟨j, hj⟩ := List.mem_iff_getElem?.1 hx
                  obtain ⟨t, _, h2⟩ := hread j x (by simpa using hj)
                  exact ⟨_, h2⟩
                have hrg : es.toList.map (rg P kt anyR) = ts.map fun t => (.string t, .lit (.bool false)) := by
                  apply List.ext_getElem?
                  intro j
                  rw [List.getElem?_map, List.getElem?_map, Array.getElem?_toList]
                  cases hj : es[j]? with
                  | none =>
                    have h1 := Array.getElem?_eq_none_iff.1 hj
                    have h2 : ks.length = ts.length := by rw [hks, List.length_map]
                    rw [List.getElem?_eq_none (by omega)]; rfl
                  | some e =>
                    obtain ⟨t, h1, h2⟩ := hread j e hj
                    rw [h1]
                    simp only [Option.map_some]
                    rw [rg_of h2]
                have hown : w.ownsMap P kt anyR bm.blk es.size (.map ((es.toList.map (rg P kt anyR)).foldr DataW.insert [])) := ⟨es, cl, t2, hfit, Nat.le_refl _, rfl⟩
                have hperm : (strKeys (DataW.map ((es.toList.map (rg P kt anyR)).foldr DataW.insert []))).Perm ts := by
                  show (((es.toList.map (rg P kt anyR)).foldr DataW.insert []).map fun p => strOf p.1).Perm ts
                  have h1 := (Go.WideShapes.sorted_perm (es.toList.map (rg P kt anyR))).map fun p : Lit × DataW Unit => strOf p.1
                  refine h1.trans ?_
                  rw [hrg, List.map_map]
                  have : ts.map ((fun p : Lit × DataW Unit => strOf p.1) ∘ fun t => (.string t, .lit (.bool false))) = ts := by
                    apply List.ext_getElem?
                    intro j
                    rw [List.getElem?_map]
                    cases ts[j]? <;> rfl
                  rw [this]
                have hsize : Maps.size (DataW.map ((es.toList.map (rg P kt anyR)).foldr DataW.insert [])) ≤ es.size := hown.size_le
                have h2 : ks.length = ts.length := by rw [hks, List.length_map]
                have hcell : w.cell? ⟨bi.blk, 0, none⟩ = some (.map (some bm.blk)) := by
                  rw [cell_row r1]
                  simpa using hu1
                have hblk : bi.blk < w.heap.size := (M.own b bi hbi).2.1
                have hcall := hS bi.blk bm.blk es.size _ w hblk hcell hown (by simp only [maxLen]; omega) (by omega)
                have hargs : ([Value.func (.func i) ([] : List Value).toArray [Value.pointer (some ⟨bi.blk, 0 * bi.sz + 0, none⟩)].toArray]).toArray = #[.func (.func i) #[] #[.pointer (some ⟨bi.blk, 0, none⟩)]] := by
                  simp
                rw [hargs]
                refine hcall.mono ?_
                rintro e w' ⟨v, ss, rfl, hss, hrow, hbel⟩
                have hsort : ss.mergeSort leB = sortT ts := sortT_eq (hss.trans hperm)
                rw [hsort] at hrow
                have hssl : ss.length = (sortT ts).length := by
                  have := (hss.trans hperm).length_eq
                  rw [this, (sortT_perm ts).length_eq]
                rw [hssl] at hrow
                obtain ⟨_, hrow⟩ := hrow
                have hold : ∀ b, b < w.heap.size → w'.heap[b]? = w.heap[b]? := hbel.block
                rcases hrow with ⟨rfl, hz⟩ | ⟨gb, cap, cur', rfl, hbase, hgb, s1, s2, s3, s4⟩
                · have hnil : sortT ts = [] := List.eq_nil_of_length_eq_zero hz
                  refine ⟨_, S, β, rfl, ⟨fun _ h => h, fun _ _ h => h, fun b hb => hold b (M.sub b hb)⟩, ?_, ?_⟩
                  · exact M.later hbel
                  · rw [hnil]
                    exact .seq none 0 0 0 0 [] false (fun _ _ => undef) (by simp) (by simp [maxLen]) (fun h => by cases h) (fun h => absurd rfl h) (by simp) (by simp) (by simp)
                · refine ⟨_, fun b => S b ∨ b = gb, β, rfl, ⟨fun _ h => .inl h, fun _ _ h => h, fun b hb => hold b (M.sub b hb)⟩, ?_, ?_⟩
                  · exact (M.later hbel).more hbase (by have := (Array.getElem?_eq_some_iff.1 hgb).1; exact this)  (fun i bi' hi => (M.own i bi' hi).2.1) M.size
                  · have hV := V.seq (S := fun b => S b ∨ b = gb) (β := β) (w := w') (some ⟨gb, 0, none⟩) cap 1 gb 0 ((sortT ts).map fun l => .str ⟨l.toArray⟩) false (fun i _ => encStr ((sortT ts).getD i [])) (by simpa using s1) s2 (fun h => by cases h) (fun _ => ⟨rfl, .inr rfl⟩)
                      (fun i e he => by
                        rw [List.getElem?_map] at he
                        obtain ⟨t, _, rfl⟩ := Option.map_eq_some_iff.1 he
                        rfl)
                      (fun i j e c he hc => by
                        rw [List.getElem?_map] at he
                        obtain ⟨t, ht, rfl⟩ := Option.map_eq_some_iff.1 he
                        match j with
                        | 0 =>
                          rw [cell_row hgb]
                          have h1 : (cur'.toList.take ((sortT ts).length * 1))[i]? = some (encStr t) := by rw [s4, List.getElem?_map, ht]; rfl
                          rw [List.getElem?_take] at h1
                          split at h1
                          · rw [Array.getElem?_toList] at h1
                            rw [List.getD_eq_getElem?_getD, ht]
                            simpa using h1
                          · cases h1
                        | j + 1 => simp [AV.cells] at hc)
                      (fun i j e c he hc => by
                        rw [List.getElem?_map] at he
                        obtain ⟨t, ht, rfl⟩ := Option.map_eq_some_iff.1 he
                        match j with
                        | 0 =>
                          simp only [AV.cells, List.getElem?_cons_zero] at hc
                          injection hc with hc
                          subst hc
                          rw [List.getD_eq_getElem?_getD, ht]
                          exact .str _
                        | j + 1 => simp [AV.cells] at hc)
                    simpa using hV
            · cases h
          · cases h
        · cases h
    · cases h

end
end Go.Ped
