/-
  What the callees of AdornPatterns come to, for any input.
-/
import Derived.Test.YthhfolohakiemaaGreatDoorWays
import Derived.Test.YthhfolohakiemaaGreatDoorHas18
set_option linter.unusedVariables false
set_option linter.unnecessarySimpa false
set_option linter.unusedSimpArgs false
namespace Go.Ped
open Go.RowKit Go.Proofs

/-! ### Small laws -/

theorem noIds_av (ts : List Tm) : noIdsL (ts.map Tm.av) = true := noIdsL_iff.2 fun x hx => by obtain ⟨t, _, rfl⟩ := List.mem_map.1 hx; rfl
theorem noIds_str (ks : List ByteArray) : noIdsL (ks.map AV.str) = true := noIdsL_iff.2 fun x hx => by obtain ⟨t, _, rfl⟩ := List.mem_map.1 hx; rfl
theorem noIds_bav (bs : List UInt8) : noIdsL (bs.map bav) = true := noIdsL_iff.2 fun x hx => by obtain ⟨t, _, rfl⟩ := List.mem_map.1 hx; rfl
theorem av_mk (t : Tm) : (AV.agg [AV.str t.1, AV.int IntKind.i8 t.2, AV.int IntKind.i64 t.3, AV.str t.4]) = t.av := rfl

theorem get_av {ts : List Tm} {i : Nat} {t : Tm} (h : ts[i]? = some t) : (List.map Tm.av ts)[Int.toNat (↑i : Int)]? = some t.av := by simpa using get_map Tm.av h

theorem first_at {l : List ByteArray} {s : ByteArray} (hin : s ∈ l) : ∃ k : Nat, l[k]? = some s ∧ ∀ i, i < k → ∃ x, l[i]? = some x ∧ x ≠ s := by
  induction l with
  | nil => simp at hin
  | cons y r ih =>
    by_cases e : y = s
    · exact ⟨0, by simp [e], fun i hi => by omega⟩
    · have hin' : s ∈ r := by simpa [Ne.symm e] using hin
      obtain ⟨k, h1, h2⟩ := ih hin'
      refine ⟨k + 1, by simpa using h1, fun i hi => ?_⟩
      cases i with
      | zero => exact ⟨y, rfl, e⟩
      | succ i => simpa using h2 i (by omega)

/-- One more is filled in. -/
theorem fill_step {α β : Type} (f : α → β) (z : β) {l : List α} {i m : Nat} {x : α} (hx : l[i]? = some x) : ((l.take i).map f ++ List.replicate (m + 1) z).set i (f x) = (l.take (i + 1)).map f ++ List.replicate m z := by
  have hi : i < l.length := (List.getElem?_eq_some_iff.1 hx).1
  have hlen : ((l.take i).map f).length = i := by rw [List.length_map, List.length_take]; omega
  rw [List.set_append_right _ _ (by omega), hlen, Nat.sub_self, List.replicate_succ, List.set_cons_zero]
  have : l.take (i + 1) = l.take i ++ [x] := by rw [List.take_add_one, hx]; rfl
  rw [this, List.map_append, List.append_assoc]
  rfl

/-! ### slices.Contains over texts -/

theorem index_yes (l : List ByteArray) (c : Bool) (s : ByteArray) (hl : l.length < 1000000000000000) (h : s ∈ l) : ∃ k : Nat, Spec Tryz.prog 73 [.seq (l.map .str) c, .str s] [] (.int .i64 k) [] := by
  obtain ⟨k, h1, h2⟩ := first_at h
  have hk : k < l.length := (List.getElem?_eq_some_iff.1 h1).1
  refine ⟨k, Spec.pure (fn := Tryz.f73) (c := bodyOf Tryz.f73) (by kernel_rfl) (by kernel_rfl) (by kernel_rfl) (idx_yes l c s k ⟨?_, trivial⟩) (.inr rfl) (by kernel_rfl) (by kernel_rfl)⟩
  let st : Nat → St := fun i => ⟨[(0, .seq (l.map .str) c), (1, .str s), (4, .int .i64 0), (7, .int .i64 l.length), (8, .int .i64 i)], []⟩
  have main : Loops Tryz.prog 19 (loopOf Tryz.f73 0) (st 0) .ret (St.mk [(4, AV.int IntKind.i64 (↑k : Int))] []) := by
    refine Loops.from (N := k) (fun i hi => ?_) (.leave (idx_found l c s s k ⟨by simp; omega, ⟨by omega, by simpa using h1⟩, by simp, trivial⟩) (by simp))
    obtain ⟨x, h3, h4⟩ := h2 i hi
    exact idx_next l c s x i ⟨by simp; omega, ⟨by omega, by simpa using h3⟩, by simp [Ne.symm h4], wrap64_id (by omega) (by omega), trivial⟩
  simp only [List.length_map]
  exact Loops.keep [0, 1, 4, 7, 8] [] main (cs := []) (by kernel_rfl) trivial

theorem index_no (l : List ByteArray) (c : Bool) (s : ByteArray) (hl : l.length < 1000000000000000) (h : s ∉ l) : Spec Tryz.prog 73 [.seq (l.map .str) c, .str s] [] (.int .i64 (-1)) [] := by
  refine Spec.pure (fn := Tryz.f73) (c := bodyOf Tryz.f73) (by kernel_rfl) (by kernel_rfl) (by kernel_rfl) (idx_no l c s ⟨?_, trivial⟩) (.inr rfl) (by kernel_rfl) (by kernel_rfl)
  let st : Nat → St := fun i => ⟨[(0, .seq (l.map .str) c), (1, .str s), (4, .int .i64 0), (7, .int .i64 l.length), (8, .int .i64 i)], []⟩
  have main : Loops Tryz.prog 19 (loopOf Tryz.f73 0) (st 0) (.exit 0) (St.mk [] []) := by
    refine Loops.from (N := l.length) (fun i hi => ?_) (.leave (idx_end l c s l.length ⟨by simp, trivial⟩) (by simp))
    have h3 : l[i]? = some l[i] := List.getElem?_eq_getElem hi
    have h4 : l[i] ≠ s := fun e => h (e ▸ List.getElem_mem hi)
    exact idx_next l c s l[i] i ⟨by simp; omega, ⟨by omega, by simpa using h3⟩, by simp [Ne.symm h4], wrap64_id (by omega) (by omega), trivial⟩
  simp only [List.length_map]
  exact Loops.keep [0, 1, 4, 7, 8] [] main (cs := []) (by kernel_rfl) trivial

theorem contains_spec (l : List ByteArray) (c : Bool) (s : ByteArray) (hl : l.length < 1000000000000000) : Spec Tryz.prog 37 [.seq (l.map .str) c, .str s] [] (.bool (hasT l s)) [] := by
  by_cases h : s ∈ l
  · rw [hasT_iff.2 h]
    obtain ⟨k, hk⟩ := index_yes l c s hl h
    have this : Spec Tryz.prog 37 [.seq (l.map .str) c, .str s] [] (.bool (decide (0 ≤ (↑k : Int)))) [] := Spec.pure (fn := Tryz.f37) (c := bodyOf Tryz.f37) (by kernel_rfl) (by kernel_rfl) (by kernel_rfl) (con_p l c s k ⟨hk, trivial⟩) (.inr rfl) (by kernel_rfl) (by kernel_rfl)
    have e : decide (0 ≤ (↑k : Int)) = true := by simp
    rw [e] at this
    exact this
  · rw [hasT_false h]
    exact Spec.pure (fn := Tryz.f37) (c := bodyOf Tryz.f37) (by kernel_rfl) (by kernel_rfl) (by kernel_rfl) (con_p l c s (-1) ⟨index_no l c s hl h, trivial⟩) (.inr rfl) (by kernel_rfl) (by kernel_rfl)

/-! ### The pattern -/

/-- A column's letter. -/
def pb (ks : List ByteArray) (t : Tm) : UInt8 := if t.v = ⟨#[]⟩ then 98 else if t.v = ⟨#[95]⟩ then 102 else bif hasT ks t.v then 98 else 102

def patT (ts : List Tm) (ks : List ByteArray) : ByteArray := ⟨(ts.map (pb ks)).toArray⟩

theorem bset (bs : List UInt8) (i : Nat) (b : UInt8) : (bs.map bav).set i (bav b) = (bs.set i b).map bav := by rw [List.map_set]

theorem pat_spec (p : ByteArray) (ts : List Tm) (c : Bool) (ks : List ByteArray) (d : Bool) (hts : ts.length < 1000000000000) (hks : ks.length < 1000000000000000) :
    Spec Tryz.prog 10 [.agg [.str p, .seq (ts.map Tm.av) c], .seq (ks.map .str) d] [] (.str (patT ts ks)) [] := by
  have hpt : (patT ts ks).data.toList = ts.map (pb ks) := by simp [patT]
  refine Spec.pure (fn := Tryz.f10) (c := bodyOf Tryz.f10) (by kernel_rfl) (by kernel_rfl) ?_ (pat_body p ts c ks d (patT ts ks) ⟨?_, ?_, ?_, trivial⟩) (.inr rfl) (by kernel_rfl) (by kernel_rfl)
  · simp only [noIdsL, Ped.noIds, noIds_av, noIds_str, Bool.and_self, Bool.and_true]
  · refine ⟨rfl, by omega, ?_, ?_⟩ <;> rw [List.length_map] <;> omega
  · let bs : Nat → List UInt8 := fun i => (ts.take i).map (pb ks) ++ List.replicate (ts.length - i) 0
    let st : Nat → St := fun i => ⟨[(1, .seq (ks.map .str) d), (4, .str ⟨#[]⟩), (5, .row 11 0 ts.length), (13, .seq (ts.map Tm.av) c), (14, .int .i64 ts.length), (15, .int .i64 i)], [(11, .row 1 ((bs i).map bav))]⟩
    have hbl : ∀ i, i ≤ ts.length → (bs i).length = ts.length := by
      intro i hi
      simp only [bs, List.length_append, List.length_map, List.length_take, List.length_replicate]
      omega
    have step : ∀ i, i < ts.length → Runs Tryz.prog 43 (loopOf Tryz.f10 0) (st i) .normal (st (i + 1)) := by
      intro i hi
      have hx : ts[i]? = some ts[i] := List.getElem?_eq_getElem hi
      generalize ts[i] = t at hx
      have hlen := hbl i (Nat.le_of_lt hi)
      have c1 : decide ((↑i : Int) < (↑(List.length ts) : Int)) = true := by simp; omega
      have c2 := get_av hx
      have c3 : 0 ≤ (↑i : Int) ∧ (↑i : Int) < (↑(List.length ts) : Int) := by omega
      have c4 : 0 + Int.toNat (↑i : Int) < List.length (List.map bav (bs i)) := by rw [List.length_map, hlen]; simpa using hi
      have c5 : IntKind.wrap IntKind.i64 ((↑i : Int) + 1) = (↑i : Int) + 1 := wrap64_id (by omega) (by omega)
      have e1 : ∀ b, List.set (List.map bav (bs i)) (0 + Int.toNat (↑i : Int)) (bav b) = ((bs i).set i b).map bav := by
        intro b
        rw [bset]; simp
      have e2 : ∀ b b', ((bs i).set i b).set i b' = (bs i).set i b' := by intro b b'; rw [List.set_set]
      have e3 : (bs i).set i (pb ks t) = bs (i + 1) := by
        simp only [bs]
        have : ts.length - i = (ts.length - (i + 1)) + 1 := by omega
        rw [this]
        exact fill_step (pb ks) 0 hx
      have c6 : 0 + Int.toNat (↑i : Int) < List.length (List.set (List.map bav (bs i)) (0 + Int.toNat (↑i : Int)) (bav 102)) := by rw [List.length_set]; exact c4
      have hc := contains_spec ks d t.v hks
      have fin : ∀ b, pb ks t = b → ∀ es, es = ((bs i).set i b).map bav → (St.mk [(1, AV.seq (List.map AV.str ks) d), (4, AV.str (ByteArray.mk #[])), (5, AV.row 11 0 (List.length ts)), (13, AV.seq (List.map Tm.av ts) c), (14, AV.int IntKind.i64 (↑(List.length ts) : Int)), (15, AV.int IntKind.i64 ((↑i : Int) + 1))] [(11, Ob.row 1 es)]) = st (i + 1) := by
        intro b hb es he
        rw [he, ← hb, e3]
        rfl
      by_cases h1 : t.v = ⟨#[]⟩
      · have hb : pb ks t = 98 := by unfold pb; rw [if_pos h1]
        have := pat_b1 p ts c ks d (bs i) i t ⟨c1, ⟨by omega, c2⟩, c3, c4, by simpa using h1, c3, c6, c5, ?_, trivial⟩
        · rw [fin 98 hb _ (by rw [show (AV.int IntKind.u8 102) = bav 102 from rfl, show (AV.int IntKind.u8 98) = bav 98 from rfl, e1, bset]; simp [e2])] at this
          exact this
        · rw [show (AV.int IntKind.u8 102) = bav 102 from rfl, show (AV.int IntKind.u8 98) = bav 98 from rfl, e1, bset]; exact noIds_bav _
      · by_cases h2 : t.v = ⟨#[95]⟩
        · have hb : pb ks t = 102 := by unfold pb; rw [if_neg h1, if_pos h2]
          have := pat_b2 p ts c ks d (bs i) i t ⟨c1, ⟨by omega, c2⟩, c3, c4, by simpa using h1, by simp [h2], c5, ?_, trivial⟩
          · rw [fin 102 hb _ (by rw [show (AV.int IntKind.u8 102) = bav 102 from rfl, e1])] at this
            exact this
          · rw [show (AV.int IntKind.u8 102) = bav 102 from rfl, e1]; exact noIds_bav _
        · cases h3 : hasT ks t.v with
          | true =>
            rw [h3] at hc
            have hb : pb ks t = 98 := by unfold pb; rw [if_neg h1, if_neg h2, h3]; rfl
            have := pat_b3 p ts c ks d (bs i) i t ⟨c1, ⟨by omega, c2⟩, c3, c4, by simpa using h1, by simp [h2], hc, c3, c6, c5, ?_, trivial⟩
            · rw [fin 98 hb _ (by rw [show (AV.int IntKind.u8 102) = bav 102 from rfl, show (AV.int IntKind.u8 98) = bav 98 from rfl, e1, bset]; simp [e2])] at this
              exact this
            · rw [show (AV.int IntKind.u8 102) = bav 102 from rfl, show (AV.int IntKind.u8 98) = bav 98 from rfl, e1, bset]; exact noIds_bav _
          | false =>
            rw [h3] at hc
            have hb : pb ks t = 102 := by unfold pb; rw [if_neg h1, if_neg h2, h3]; rfl
            have := pat_b4 p ts c ks d (bs i) i t ⟨c1, ⟨by omega, c2⟩, c3, c4, by simpa using h1, by simp [h2], hc, c5, ?_, trivial⟩
            · rw [fin 102 hb _ (by rw [show (AV.int IntKind.u8 102) = bav 102 from rfl, e1])] at this
              exact this
            · rw [show (AV.int IntKind.u8 102) = bav 102 from rfl, e1]; exact noIds_bav _
    have main : Loops Tryz.prog 43 (loopOf Tryz.f10 0) (st 0) (.exit 0) (St.mk [(5, AV.row 11 0 (List.length ts))] [(11, Ob.row 1 (List.map bav (bs ts.length)))]) :=
      Loops.from (N := ts.length) step (.leave (pat_end p ts c ks d (bs ts.length) ts.length ⟨by simp, noIds_bav _, trivial⟩) (by simp))
    have he : bs ts.length = ts.map (pb ks) := by simp only [bs, Nat.sub_self, List.replicate_zero, List.append_nil, List.take_length]
    rw [he] at main
    rw [hpt]
    simp only [List.length_map, Int.toNat_natCast]
    have e0 : st 0 = ⟨[(1, .seq (ks.map .str) d), (4, .str ⟨#[]⟩), (5, .row 11 0 ts.length), (13, .seq (ts.map Tm.av) c), (14, .int .i64 ts.length), (15, .int .i64 0)], [(11, .row 1 (List.replicate ts.length (AV.int IntKind.u8 0)))]⟩ := by
      simp [st, bs, bav]
    rw [e0] at main
    exact Loops.keep [1, 4, 5, 13, 14, 15] [(11, .keep 11 true)] main (cs := [noIdsL (List.replicate ts.length (AV.int IntKind.u8 0)) = true]) (by kernel_rfl) ⟨by have := noIds_bav (List.replicate ts.length 0); simpa [bav] using this, trivial⟩
  · rw [hpt]
    refine ⟨rfl, ?_, ?_⟩
    · show ts.length = (ts.map (pb ks)).toArray.size
      simp
    · rw [List.take_of_length_le (by simp)]
      rfl

end Go.Ped
