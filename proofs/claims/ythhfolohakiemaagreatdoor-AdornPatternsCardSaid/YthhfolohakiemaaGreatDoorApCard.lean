/-
  THE CARD of AdornPatterns: for every input the function answers true, and each argument reads afterwards as it read before. No condition beyond the card's own.
-/
import Derived.Test.YthhfolohakiemaaGreatDoorRead
import Derived.Test.YthhfolohakiemaaGreatDoorCards
import Derived.Test.YthhfolohakiemaaGreatDoorTie
set_option linter.unusedVariables false
set_option linter.unnecessarySimpa false
set_option linter.unusedSimpArgs false
namespace Go.Proofs.YthhfolohakiemaaGreatDoor.adornPatterns
open Go.ChangeShapes Go.WideShapes Go.ChangeAt Go.RowKit Go.Ped

set_option maxRecDepth 100000
theorem own : ownKnob Tryz.prog.godebug = none := by kernel_rfl
theorem laidOut : laidOutB Tryz.prog = true := by kernel_rfl
theorem gTabType : (Tryz.prog.globals[0]?).map (·.type) = some 298 := by kernel_rfl
theorem ulTab : Tryz.prog.underlying 298 = some (.array 20 204) := by kernel_rfl
theorem ulTabE : Tryz.prog.underlying 204 = some (.int .u64) := by kernel_rfl
theorem cells298 : Tryz.prog.cellsOf 298 = 20 := by kernel_rfl
theorem cells204 : Tryz.prog.cellsOf 204 = 1 := by kernel_rfl
theorem cells9 : Tryz.prog.cellsOf 9 = 1 := by kernel_rfl
theorem cells22 : Tryz.prog.cellsOf 22 = 1 := by kernel_rfl
theorem cells24 : Tryz.prog.cellsOf 24 = 2 := by kernel_rfl
theorem cells27 : Tryz.prog.cellsOf 27 = 2 := by kernel_rfl
theorem cells37 : Tryz.prog.cellsOf 37 = 4 := by kernel_rfl
theorem cells35 : Tryz.prog.cellsOf 35 = 3 := by kernel_rfl
theorem cells33 : Tryz.prog.cellsOf 33 = 1 := by kernel_rfl
theorem cells2 : Tryz.prog.cellsOf 2 = 1 := by kernel_rfl
theorem ul33 : Tryz.prog.underlying 33 = some (.int .i8) := by kernel_rfl
theorem ul2 : Tryz.prog.underlying 2 = some (.int .i64) := by kernel_rfl
theorem bytes9 : Tryz.prog.bytesOf 9 = 16 := by kernel_rfl
theorem bytes37 : Tryz.prog.bytesOf 37 = 48 := by kernel_rfl

/-- WHAT THE ROW's LIST GIVES: the table's cells hold the powers of ten. -/
theorem table {W : World} (h : laidMetH Tryz.prog Rows.adornPatternsRow.laid W) : Tabs W := by
  obtain ⟨_, ⟨_, _, _, _, _, _, _, _, _, _, ⟨_, _, _, _, _, _, _, _, _, _, ⟨g', t', cs, fuel, p, q, hg', ht', hvar, hd, _, _⟩, _⟩, _⟩, _⟩ := h
  obtain rfl := Option.some.inj (Tryz.gTab.symm.trans hg')
  obtain rfl := Option.some.inj (gTabType.symm.trans ht')
  have hd' : DataW.trod (fun _ => ()) Tryz.prog W 0 (fun _ => true) false fuel 298 cs.toList = some (Lib.tabData .u64 Lib.pow10Tab, p) := hd
  have hcs := Lib.cells_of_tab ulTab ulTabE cells204 cells298 hd'
  refine tabs_of ?_
  unfold Lib.TabIs
  rw [hvar]
  congr 1
  rw [← hcs]

section
variable {H : Type} {enc : TypeId × Value → H} {w : World} {base : Nat} {sp : Nat → Bool} {held : Bool}

/-- A term that reads. -/
theorem read_term (n : Nat) (cs : List Value) (y : DataW H × List MemPlace) (h : DataW.trod enc Tryz.prog w base sp held n 37 cs = some y) : ∃ q : Tm, Each (allB w) noB w cs q.av.cells ∧ q.av.cells.length = 4 := by
  obtain ⟨xs, m, rfl, _, hlen, hxs, hf⟩ := DataW.trod_struct Tryz.underlying37 h
  rw [cells37] at hlen
  have hxs : xs.length = 2 := hxs
  match cs, hlen with
  | [c0, c1, c2, c3], _ =>
    have f0 := hf 0 ⟨ "Var", 9, 0, false, "", "", 0⟩ rfl
    have f1 := hf 1 ⟨ "Val", 35, 1, false, "", "", 16⟩ rfl
    simp only [List.drop_zero, cells9, cells35, List.take_succ_cons, List.take_zero, List.drop_succ_cons] at f0 f1
    match xs, hxs with
    | [x0, x1], _ =>
        simp only [List.getElem?_cons_zero, List.getElem?_cons_succ] at f0 f1
        obtain ⟨s0, e0, _⟩ := E_str Tryz.underlying9 f0
        obtain ⟨ys, m', _, _, _, hys, hg⟩ := DataW.trod_struct Tryz.underlying35 f1
        have g0 := hg 0 ⟨ "Kind", 33, 0, false, "", "", 0⟩ rfl
        have g1 := hg 1 ⟨ "Num", 2, 1, false, "", "", 8⟩ rfl
        have g2 := hg 2 ⟨ "Text", 9, 2, false, "", "", 16⟩ rfl
        simp only [List.drop_zero, cells33, cells2, cells9, List.take_succ_cons, List.take_zero, List.drop_succ_cons] at g0 g1 g2
        have hys : ys.length = 3 := hys
        rw [List.getElem?_eq_getElem (by omega)] at g0 g1 g2
        obtain ⟨k, e1, _⟩ := DataW.trod_int ul33 g0
        obtain ⟨z, e2, _⟩ := DataW.trod_int ul2 g1
        obtain ⟨s3, e3, _⟩ := E_str Tryz.underlying9 g2
        simp only [List.cons.injEq, and_true] at e0 e1 e2 e3
        subst e0; subst e1; subst e2; subst e3
        refine ⟨⟨s0, k, z, s3⟩, ⟨rfl, fun i v c h1 h2 => ?_⟩, rfl⟩
        match i with
        | 0 => simp [Tm.av, AV.cells] at h1 h2; subst h1; subst h2; exact .str _
        | 1 => simp [Tm.av, AV.cells] at h1 h2; subst h1; subst h2; exact .int _ _
        | 2 => simp [Tm.av, AV.cells] at h1 h2; subst h1; subst h2; exact .int _ _
        | 3 => simp [Tm.av, AV.cells] at h1 h2; subst h1; subst h2; exact .str _
        | i + 4 => simp at h1

instance : Inhabited Tm := ⟨zTm⟩

theorem read_text (n : Nat) (cs : List Value) (y : DataW H × List MemPlace) (h : DataW.trod enc Tryz.prog w base sp held n 9 cs = some y) : ∃ q : ByteArray, Each (allB w) noB w cs (AV.str q).cells ∧ (AV.str q).cells.length = 1 := by
  obtain ⟨s, rfl, _⟩ := E_str Tryz.underlying9 h
  exact ⟨s, Each.one1 (.str s), rfl⟩

/-- The atom. -/
theorem read_atom {n : Nat} {cs : Array Value} {d : DataW H} {ps : List MemPlace} (h : DataW.trod enc Tryz.prog w base sp held n 24 cs.toList = some (d, ps)) (hw : (d.weights Tryz.prog 24).all (· ≤ reachBytes) = true) :
    ∃ (p : ByteArray) (ts : List Tm), V (allB w) noB w (.agg cs) (.agg [.str p, .seq (ts.map Tm.av) false]) ∧ ts.length * 48 ≤ reachBytes := by
  obtain ⟨xs, m, rfl, hd, hlen, hxs, hf⟩ := DataW.trod_struct Tryz.underlying24 h
  rw [cells24] at hlen
  have hxs : xs.length = 2 := hxs
  obtain ⟨l⟩ := cs
  simp only at hlen hf
  match l, hlen with
  | [c0, c1], _ =>
    have f0 := hf 0 ⟨ "Pred", 9, 0, false, "", "", 0⟩ rfl
    have f1 := hf 1 ⟨ "Args", 22, 1, false, "", "", 16⟩ rfl
    simp only [List.drop_zero, cells9, cells22, List.take_succ_cons, List.take_zero, List.drop_succ_cons] at f0 f1
    match xs, hxs with
    | [x0, x1], _ =>
      simp only [List.getElem?_cons_zero, List.getElem?_cons_succ] at f0 f1
      obtain ⟨p, e0, _⟩ := E_str Tryz.underlying9 f0
      obtain ⟨v, ts, e1, hV, hx⟩ := V_slice Tm.av Tryz.underlying22 cells37 (by omega) read_term f1
      simp only [List.cons.injEq, and_true] at e0 e1
      subst e0; subst e1
      refine ⟨p, ts, .agg [.string p, c1] [.str p, .seq (ts.map Tm.av) false] rfl fun i v c h1 h2 => ?_, ?_⟩
      · match i with
        | 0 => simp at h1 h2; subst h1; subst h2; exact .str _
        | 1 => simp at h1 h2; subst h1; subst h2; exact hV
        | i + 2 => simp at h1
      · rcases hx with ⟨_, rfl⟩ | ⟨elems, spare, he, hl⟩
        · simp
        · injection hd with hd1 hd2
          subst hd1
          simp only [List.map_cons, List.map_nil, he, DataW.weights, Tryz.underlying24, Tryz.underlying22, DataW.weightsEach, List.all_append, List.all_cons, Bool.and_eq_true, decide_eq_true_eq, bytes37] at hw
          rw [← hl]
          have := hw.2.1.1
          omega

/-- The pair. -/
theorem read_pair {n : Nat} {cs : Array Value} {d : DataW H} {ps : List MemPlace} (h : DataW.trod enc Tryz.prog w base sp held n 27 cs.toList = some (d, ps)) (hw : (d.weights Tryz.prog 27).all (· ≤ reachBytes) = true) :
    ∃ (q s : ByteArray), V (allB w) noB w (.agg cs) (.agg [.str q, .str s]) ∧ q.size ≤ reachBytes ∧ s.size ≤ reachBytes := by
  obtain ⟨xs, m, rfl, hd, hlen, hxs, hf⟩ := DataW.trod_struct Tryz.underlying27 h
  rw [cells27] at hlen
  have hxs : xs.length = 2 := hxs
  obtain ⟨l⟩ := cs
  simp only at hlen hf
  match l, hlen with
  | [c0, c1], _ =>
    have f0 := hf 0 ⟨ "Pred", 9, 0, false, "", "", 0⟩ rfl
    have f1 := hf 1 ⟨ "Pattern", 9, 1, false, "", "", 16⟩ rfl
    simp only [List.drop_zero, cells9, List.take_succ_cons, List.take_zero, List.drop_succ_cons] at f0 f1
    match xs, hxs with
    | [x0, x1], _ =>
      simp only [List.getElem?_cons_zero, List.getElem?_cons_succ] at f0 f1
      obtain ⟨q, e0, k0⟩ := E_str Tryz.underlying9 f0
      obtain ⟨s, e1, k1⟩ := E_str Tryz.underlying9 f1
      simp only [List.cons.injEq, and_true] at e0 e1
      subst e0; subst e1
      refine ⟨q, s, .agg [.string q, .string s] [.str q, .str s] rfl fun i v c h1 h2 => ?_, ?_⟩
      · match i with
        | 0 => simp at h1 h2; subst h1; subst h2; exact .str _
        | 1 => simp at h1 h2; subst h1; subst h2; exact .str _
        | i + 2 => simp at h1
      · injection hd with hd1 hd2
        subst hd1
        simp only [List.map_cons, List.map_nil, k0, k1, DataW.weights, Tryz.underlying27, DataW.weightsEach, List.all_append, List.all_cons, List.all_nil, Bool.and_eq_true, decide_eq_true_eq, and_true] at hw
        exact ⟨hw.1, hw.2⟩

end

/-- THE WALK's CONTRACT, FOR EVERY ARGUMENT AND EVERY WORLD THAT HOLDS THE TABLE. -/
theorem contract (H : Type) (enc : TypeId × Value → H) (W : World) (base : Nat) (args : Array Value) (ds gs : List (DataW H)) (before : List MemPlace)
    (hval : ∀ (j : Nat) t v, Tryz.f3.params[j]? = some t → args[j]? = some v → Value.okWide Tryz.prog W .any base t v)
    (hW : DataW.Whole enc Tryz.prog Tryz.f3.params.toList Rows.adornPatternsSpec.vars false W args.toList ds gs before)
    (hsz : (DataW.weightsEach Tryz.prog (Tryz.f3.params.toList ++ (OpenSpec.ofChange Rows.adornPatternsSpec).bare.plain.varTypes Tryz.prog) (ds ++ gs)).all (· ≤ reachBytes) = true) (hL : laidMetH Tryz.prog Rows.adornPatternsRow.laid W) :
    Calls Tryz.prog 3 args W fun e W' => ∃ v, e = .returned v ∧ Rows.adornPatternsSpec.post enc Tryz.prog Tryz.f3 false true false false W args v W' := by
  have hW' := hW
  obtain ⟨p, q, hA0, hV, rfl, hfz, hnd⟩ := hW
  have hA : DataW.TrodAll enc Tryz.prog W 0 (fun _ => true) true Tryz.f3.params.toList args.toList ds p := hA0
  rw [Tryz.params3] at hA hval
  obtain ⟨v0, vs0, d0, ds0, p0, q0, hargs, rfl, rfl, h0, r0⟩ := trodAll_cons hA
  obtain ⟨v1, vs1, d1, ds1, p1, q1, rfl, rfl, rfl, h1, r1⟩ := trodAll_cons r0
  obtain ⟨v2, vs2, d2, ds2, p2, q2, rfl, rfl, rfl, h2, r2⟩ := trodAll_cons r1
  obtain ⟨rfl, rfl, rfl⟩ := trodAll_nil r2
  obtain rfl : args = #[v0, v1, v2] := by cases args; simp_all
  obtain ⟨rfl, rfl⟩ := trodVars_none hV
  clear hA0 hA r0 r1 r2
  simp only [List.append_nil] at hW'
  obtain ⟨cs0, rfl, _⟩ := okWide_struct Tryz.underlying24 (hval 0 24 v0 rfl rfl)
  obtain ⟨a1, l1, c1, rfl⟩ := okWide_slice Tryz.underlying25 (hval 1 25 v1 rfl rfl)
  obtain ⟨cs2, rfl, _⟩ := okWide_struct Tryz.underlying27 (hval 2 27 v2 rfl rfl)
  have hlt : ∀ x ∈ p0 ++ (p1 ++ p2), x.block < W.heap.size := fun x hx => by simpa using hW'.lt x hx
  have hwt : ∀ {j : Nat} {t : TypeId} {d : DataW H}, [24, 25, 27][j]? = some t → [d0, d1, d2][j]? = some d → (d.weights Tryz.prog t).all (· ≤ reachBytes) = true := by
    intro j t d ht hd
    refine List.all_eq_true.2 fun x hx => List.all_eq_true.1 hsz x ?_
    refine DataW.weights_mem_each (j := j) (t := t) (d := d) ?_ ?_ x hx
    · rw [Tryz.params3]
      match j, ht with
      | 0, ht => simpa using ht
      | 1, ht => simpa using ht
      | 2, ht => simpa using ht
      | j + 3, ht => simp at ht
    · simpa using hd
  have k0 := h0
  have k1 := h1
  have k2 := h2
  obtain ⟨n0, h0⟩ := h0
  obtain ⟨n1, h1⟩ := h1
  obtain ⟨n2, h2⟩ := h2
  obtain ⟨pr, ts, V0, b0⟩ := read_atom h0 (hwt (j := 0) rfl rfl)
  obtain ⟨v1', ks, e1, V1, b1⟩ := V_slice AV.str Tryz.underlying25 cells9 (by omega) read_text h1
  obtain rfl : Value.slice a1 l1 c1 = v1' := by
    have : [Value.slice a1 l1 c1] = [v1'] := e1
    injection this
  obtain ⟨qq, ss, V2, b2, b3⟩ := read_pair h2 (hwt (j := 2) rfl rfl)
  have hreach : reachBytes = 140737488351232 := rfl
  have hks : ks.length ≤ 8796093022207 := by
    rcases b1 with ⟨_, rfl⟩ | ⟨elems, spare, he, hl⟩
    · simp
    · have hw := hwt (j := 1) (t := 25) (d := d1) rfl rfl
      simp only at he
      subst he
      simp only [DataW.weights, Tryz.underlying25, List.all_cons, Bool.and_eq_true, decide_eq_true_eq, bytes9] at hw
      have := hw.1
      omega
  obtain ⟨upd, hS⟩ := ap_spec pr ts false ks false qq ss (by omega) hks (by omega) (by omega)
  have hT := table hL
  let F : Fr := { w0 := W, S0 := allB W, M := fun _ => False, β0 := noB }
  have M : Mem F (allB W) noB [] W := ⟨⟨hT, fun h => h⟩, rfl, rfl, rfl, Nat.le_refl _, fun _ _ _ => rfl, fun id o h => (by cases h), fun id bi h => (by cases h), fun i j bi bj h => (by cases h), fun i bi h => (by cases h), fun b h => h, fun _ h => h, fun _ h => .inl h, fun i b _ h => h⟩
  have hcall := hS F (allB W) noB [] W [.agg cs0, .slice a1 l1 c1, .agg cs2] M rfl (fun i v x hi hx => by
      match i with
      | 0 => simp at hi hx; subst hi; subst hx; exact V0
      | 1 => simp at hi hx; subst hi; subst hx; exact V1
      | 2 => simp at hi hx; subst hi; subst hx; exact V2
      | i + 3 => simp at hi) (fun id o hm => by cases hm) (fun id o _ _ => rfl)
  refine hcall.mono ?_
  rintro e W' ⟨v, S', β', rfl, E, M', hv⟩
  cases hv with
  | bool b =>
  have hB : Below W.heap.size W W' := ⟨M'.os, M'.tape, M'.output, M'.size, fun k hk => M'.keep k hk (fun h => h)⟩
  refine ⟨_, rfl, [d0, d1, d2], [], p0 ++ (p1 ++ p2), [], p0 ++ (p1 ++ p2), [], hW', ?_, ?_, ?_, hB.frame _, fun h => by cases h⟩
  · exact trodAll_cons_mk (shut_bool Tryz.underlying4 _) trodAll_mk0
  · rw [Tryz.params3]
    have t0 := Below.trod laidOut (by kernel_rfl) (of_decide_eq_true (by kernel_rfl)) k0 hB (fun x hx => hlt x (by simp [hx]))
    have t1 := Below.trod laidOut (by kernel_rfl) (of_decide_eq_true (by kernel_rfl)) k1 hB (fun x hx => hlt x (by simp [hx]))
    have t2 := Below.trod laidOut (by kernel_rfl) (of_decide_eq_true (by kernel_rfl)) k2 hB (fun x hx => hlt x (by simp [hx]))
    have := trodAll_cons_mk t0 (trodAll_cons_mk t1 (trodAll_cons_mk t2 trodAll_mk0))
    have h3 : DataW.TrodAll enc Tryz.prog W' 0 (fun b => decide (b < W.heap.size)) true [24, 25, 27] [Value.agg cs0, Value.slice a1 l1 c1, Value.agg cs2] [d0, d1, d2] (p0 ++ (p1 ++ p2)) := by simpa using this
    exact h3
  · rfl

/-- A world for the witness: the settled one, the tables holding what their initialisers lay. -/
def tab0 : Obj → Obj
  | .cells _ t frozen => .cells #[.int .u64 1, .int .u64 10, .int .u64 100, .int .u64 1000, .int .u64 10000, .int .u64 100000, .int .u64 1000000, .int .u64 10000000, .int .u64 100000000, .int .u64 1000000000, .int .u64 10000000000, .int .u64 100000000000, .int .u64 1000000000000, .int .u64 10000000000000, .int .u64 100000000000000, .int .u64 1000000000000000, .int .u64 10000000000000000, .int .u64 100000000000000000, .int .u64 1000000000000000000, .int .u64 10000000000000000000] t frozen
  | o => o
def tab1 : Obj → Obj
  | .cells _ t frozen => .cells #[.int .u8 0, .int .u8 1, .int .u8 28, .int .u8 2, .int .u8 29, .int .u8 14, .int .u8 24, .int .u8 3, .int .u8 30, .int .u8 22, .int .u8 20, .int .u8 15, .int .u8 25, .int .u8 17, .int .u8 4, .int .u8 8, .int .u8 31, .int .u8 27, .int .u8 13, .int .u8 23, .int .u8 21, .int .u8 19, .int .u8 16, .int .u8 7, .int .u8 26, .int .u8 12, .int .u8 18, .int .u8 6, .int .u8 11, .int .u8 5, .int .u8 10, .int .u8 9] t frozen
  | o => o
def tab2 : Obj → Obj
  | .cells _ t frozen => .cells #[.int .u8 0, .int .u8 1, .int .u8 56, .int .u8 2, .int .u8 57, .int .u8 49, .int .u8 28, .int .u8 3, .int .u8 61, .int .u8 58, .int .u8 42, .int .u8 50, .int .u8 38, .int .u8 29, .int .u8 17, .int .u8 4, .int .u8 62, .int .u8 47, .int .u8 59, .int .u8 36, .int .u8 45, .int .u8 43, .int .u8 51, .int .u8 22, .int .u8 53, .int .u8 39, .int .u8 33, .int .u8 30, .int .u8 24, .int .u8 18, .int .u8 12, .int .u8 5, .int .u8 63, .int .u8 55, .int .u8 48, .int .u8 27, .int .u8 60, .int .u8 41, .int .u8 37, .int .u8 16, .int .u8 46, .int .u8 35, .int .u8 44, .int .u8 21, .int .u8 52, .int .u8 32, .int .u8 23, .int .u8 11, .int .u8 54, .int .u8 26, .int .u8 40, .int .u8 15, .int .u8 34, .int .u8 20, .int .u8 31, .int .u8 10, .int .u8 25, .int .u8 14, .int .u8 19, .int .u8 9, .int .u8 13, .int .u8 8, .int .u8 7, .int .u8 6] t frozen
  | o => o
noncomputable def laidWorld (os : Os) : World := { World.holding Tryz.prog os ⟨#[], #[], []⟩ with heap := (((World.holding Tryz.prog os ⟨#[], #[], []⟩).heap.modify 0 tab0).modify 1 tab1).modify 2 tab2 }
def args0 : Array Value := #[.agg #[.string ⟨#[]⟩, .slice none 0 0], .slice none 0 0, .agg #[.string ⟨#[]⟩, .string ⟨#[]⟩]]
theorem laid_met (os : Os) : laidMet Tryz.prog Rows.adornPatternsRow.laid ((laidWorld os).forCall (fun _ _ => 0) ⟨#[], args0, []⟩).memory :=
  laidMet_of_run' 8 (by kernel_rfl) (by kernel_rfl)
theorem reads (os : Os) {H : Type} (enc : TypeId × Value → H) : ∃ ds places, DataW.whole enc Tryz.prog ((laidWorld os).forCall (fun _ _ => 0) ⟨#[], args0, []⟩).memory Tryz.f3.params.toList Rows.adornPatternsSpec.vars false args0.toList 8 = some (ds, [], places) :=
  ⟨[.agg [.lit (.string []), .nil], .nil, .agg [.lit (.string []), .lit (.string [])]], [], by kernel_rfl⟩

set_option maxRecDepth 100000 in
theorem lifted (os : Os) (started : os.Started) (H : Type) (enc : TypeId × Value → H) (F : Stop.Interp) :
    ReturnsInHanded {} Tryz.checked os 3 .any ((OpenSpec.ofChange Rows.adornPatternsSpec).preRow enc Tryz.prog Tryz.f3 Rows.adornPatternsRow.domain false Rows.adornPatternsRow.laid) (((OpenSpec.ofChange Rows.adornPatternsSpec).at F).post enc Tryz.prog Tryz.f3 false true false false) := by
  have hx : DataW.whole enc Tryz.prog ((laidWorld os).forCall (fun _ _ => 0) ⟨#[], args0, []⟩).memory Tryz.f3.params.toList Rows.adornPatternsSpec.vars false args0.toList 8 = some ([.agg [.lit (.string []), .nil], .nil, .agg [.lit (.string []), .lit (.string [])]], [], []) := by kernel_rfl
  refine returnsInHanded_of_row (C := Tryz.checked) (s := OpenSpec.ofChange Rows.adornPatternsSpec) own started (by kernel_rfl) Tryz.func3
    (witness_row_at (enc := enc) (C := Tryz.checked) false (laidWorld os) args0 rfl (by kernel_rfl) (by kernel_rfl) (by kernel_rfl)
      (OpenSpec.preRow_of_cond 8 hx (by kernel_rfl) (fun k hk => by cases hk) (by kernel_rfl) (laid_met os))) ?_
  intro W base args ds gs before hval hW _ _ hsz hL _ _
  exact contract H enc W base args ds gs before hval hW hsz hL

theorem said : Rows.AdornPatternsSaid :=
  OpenClaim.holds_of_cond 3 Tryz.f3 rfl rfl rfl rfl rfl rfl rfl ⟨rfl, rfl, rfl, rfl, rfl⟩ rfl rfl rfl rfl rfl (by kernel_rfl) Tryz.func3 (by kernel_rfl)
    (of_decide_eq_true (by kernel_rfl)) (by unfold Func.isWrapper; first | (rw [if_pos (by decide +kernel)]; kernel_rfl) | (rw [if_neg (by decide +kernel)]; exact ⟨rfl, rfl⟩))
    (fun os started H enc _ F => by rw [OpenClaim.pre_eq_preRow]; exact lifted os started H enc F)

/-- No parameter wants a stand-in; the program's own looks are off: what the card asks. -/
theorem plain (f : FuncId) (fn : Func) (hf : Tryz.pinned.checked.prog.funcNamed "pedigree/pedigreelaw18.AdornPatterns" = some f) (hfn : Tryz.pinned.checked.prog.funcs[f]? = some fn) :
    true = Tryz.pinned.checked.prog.looks [] ∧ ∀ (j : Nat) t, fn.params[j]? = some t → Tryz.pinned.checked.prog.wantsStandIn t = false := by
  obtain rfl : f = 3 := Option.some.inj ((show Tryz.prog.funcNamed "pedigree/pedigreelaw18.AdornPatterns" = some 3 by kernel_rfl).symm.trans hf) |>.symm
  obtain rfl : fn = Tryz.f3 := (Option.some.inj (Tryz.func3.symm.trans hfn)).symm
  refine ⟨by kernel_rfl, fun j t ht => ?_⟩
  rw [Tryz.params3] at ht
  match j with
  | 0 => obtain rfl : 24 = t := by simpa using ht
         exact (show Tryz.prog.wantsStandIn 24 = false by kernel_rfl)
  | 1 => obtain rfl : 25 = t := by simpa using ht
         exact (show Tryz.prog.wantsStandIn 25 = false by kernel_rfl)
  | 2 => obtain rfl : 27 = t := by simpa using ht
         exact (show Tryz.prog.wantsStandIn 27 = false by kernel_rfl)
  | j + 3 => simp at ht

/-- ████ THE CARD ████ -/
theorem card : Rows.AdornPatternsCardSaid :=
  Claim7.holds_tied_plain_at .later [] _ _ _ _ said (fun _ h => by cases h) (by kernel_rfl) (fun _ h => by cases h) adornPatterns_row_tie rfl ⟨rfl, rfl⟩ (by kernel_rfl) rfl plain (by kernel_rfl)
end Go.Proofs.YthhfolohakiemaaGreatDoor.adornPatterns
