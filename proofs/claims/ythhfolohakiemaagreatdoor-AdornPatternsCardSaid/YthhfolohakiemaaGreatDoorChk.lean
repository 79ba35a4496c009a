/-
  The engine, part 1b: what can be told by computing. Plain text.
-/
import Derived.Test.YthhfolohakiemaaGreatDoorAbs
set_option linter.unusedVariables false
namespace Go.Ped
open Go.RowKit

mutual
def AV.beq : AV → AV → Bool
  | .int k n, .int k' n' => decide (k = k') && decide (n = n')
  | .bool b, .bool b' => decide (b = b')
  | .str s, .str s' => decide (s = s')
  | .agg cs, .agg cs' => AV.beqL cs cs'
  | .tup cs, .tup cs' => AV.beqL cs cs'
  | .seq es c, .seq es' c' => AV.beqL es es' && decide (c = c')
  | .row i o l, .row i' o' l' => decide (i = i') && decide (o = o') && decide (l = l')
  | .tptr cs, .tptr cs' => AV.beqL cs cs'
  | .elt i k o, .elt i' k' o' => decide (i = i') && decide (k = k') && decide (o = o')
  | .nilp, .nilp => true
  | .map i, .map i' => decide (i = i')
  | .tmap ks vs, .tmap ks' vs' => AV.beqL ks ks' && AV.beqL vs vs'
  | .nilmap, .nilmap => true
  | .nils, .nils => true
  | .clo f a b, .clo f' a' b' => decide (f = f') && AV.beqL a a' && AV.beqL b b'
  | .nilf, .nilf => true
  | .iface t v, .iface t' v' => decide (t = t') && AV.beq v v'
  | .nili, .nili => true
  | .dead, .dead => true
  | _, _ => false
def AV.beqL : List AV → List AV → Bool
  | [], [] => true
  | x :: r, y :: s => AV.beq x y && AV.beqL r s
  | _, _ => false
end

mutual
theorem AV.beq_eq : ∀ (x y : AV), AV.beq x y = true → x = y
  | .int k n, y, h => by cases y <;> simp [AV.beq] at h; obtain ⟨rfl, rfl⟩ := h; rfl
  | .bool b, y, h => by cases y <;> simp [AV.beq] at h; subst h; rfl
  | .str s, y, h => by cases y <;> simp [AV.beq] at h; subst h; rfl
  | .agg cs, y, h => by
    cases y with
    | agg cs' => simp only [AV.beq] at h; rw [AV.beqL_eq cs cs' h]
    | _ => simp [AV.beq] at h
  | .tup cs, y, h => by
    cases y with
    | tup cs' => simp only [AV.beq] at h; rw [AV.beqL_eq cs cs' h]
    | _ => simp [AV.beq] at h
  | .seq es c, y, h => by
    cases y with
    | seq es' c' => simp only [AV.beq, Bool.and_eq_true, decide_eq_true_eq] at h; rw [AV.beqL_eq es es' h.1, h.2]
    | _ => simp [AV.beq] at h
  | .row i o l, y, h => by cases y <;> simp [AV.beq] at h; obtain ⟨⟨rfl, rfl⟩, rfl⟩ := h; rfl
  | .tptr cs, y, h => by
    cases y with
    | tptr cs' => simp only [AV.beq] at h; rw [AV.beqL_eq cs cs' h]
    | _ => simp [AV.beq] at h
  | .elt i o l, y, h => by cases y <;> simp [AV.beq] at h; obtain ⟨⟨rfl, rfl⟩, rfl⟩ := h; rfl
  | .nilp, y, h => by cases y <;> simp [AV.beq] at h; rfl
  | .map i, y, h => by cases y <;> simp [AV.beq] at h; subst h; rfl
  | .tmap ks vs, y, h => by
    cases y with
    | tmap ks' vs' => simp only [AV.beq, Bool.and_eq_true] at h; rw [AV.beqL_eq ks ks' h.1, AV.beqL_eq vs vs' h.2]
    | _ => simp [AV.beq] at h
  | .nilmap, y, h => by cases y <;> simp [AV.beq] at h; rfl
  | .nils, y, h => by cases y <;> simp [AV.beq] at h; rfl
  | .clo f a b, y, h => by
    cases y with
    | clo f' a' b' => simp only [AV.beq, Bool.and_eq_true, decide_eq_true_eq] at h; rw [h.1.1, AV.beqL_eq a a' h.1.2, AV.beqL_eq b b' h.2]
    | _ => simp [AV.beq] at h
  | .nilf, y, h => by cases y <;> simp [AV.beq] at h; rfl
  | .iface t v, y, h => by
    cases y with
    | iface t' v' => simp only [AV.beq, Bool.and_eq_true, decide_eq_true_eq] at h; rw [h.1, AV.beq_eq v v' h.2]
    | _ => simp [AV.beq] at h
  | .nili, y, h => by cases y <;> simp [AV.beq] at h; rfl
  | .dead, y, h => by cases y <;> simp [AV.beq] at h; rfl
theorem AV.beqL_eq : ∀ (x y : List AV), AV.beqL x y = true → x = y
  | [], [], _ => rfl
  | [], _ :: _, h => by simp [AV.beqL] at h
  | _ :: _, [], h => by simp [AV.beqL] at h
  | x :: r, y :: s, h => by
    simp only [AV.beqL, Bool.and_eq_true] at h
    rw [AV.beq_eq x y h.1, AV.beqL_eq r s h.2]
end

/-- It can be told by computing that it holds (not: that it does not). -/
class Chk (p : Prop) where
  b : Bool
  h : b = true → p

instance (priority := 10) chkDec {p : Prop} [Decidable p] : Chk p := ⟨decide p, of_decide_eq_true⟩
instance chkAnd {p q : Prop} [hp : Chk p] [hq : Chk q] : Chk (p ∧ q) := ⟨hp.b && hq.b, fun h => by rw [Bool.and_eq_true] at h; exact ⟨hp.h h.1, hq.h h.2⟩⟩
instance chkAV {x y : AV} : Chk (x = y) := ⟨AV.beq x y, AV.beq_eq x y⟩
instance chkAVL {x y : List AV} : Chk (x = y) := ⟨AV.beqL x y, AV.beqL_eq x y⟩
instance chkNe {l : List AV} : Chk (l ≠ []) := ⟨match l with | [] => false | _ :: _ => true, by cases l <;> simp⟩
instance chkOpt {x : Option AV} {y : AV} : Chk (x = some y) := ⟨match x with | some z => AV.beq z y | none => false, by
  cases x with
  | none => intro h; cases h
  | some z => intro h; rw [AV.beq_eq z y h]⟩
instance chkAll {l : List AV} {p : AV → Prop} [hp : ∀ x, Chk (p x)] : Chk (∀ x, x ∈ l → p x) := ⟨l.all fun x => (hp x).b, fun h x hx => (hp x).h (List.all_eq_true.1 h x hx)⟩
instance chkByte {o : Option UInt8} {m : Int} : Chk (∃ b : UInt8, o = some b ∧ m = b.toNat) := ⟨match o with | some b => decide (m = b.toNat) | none => false, by
  cases o with
  | none => intro h; cases h
  | some b => intro h; exact ⟨b, rfl, of_decide_eq_true h⟩⟩

/-- A condition, and what is told of it by computing. -/
structure Cond where
  p : Prop
  b : Bool
  h : b = true → p

abbrev mkC (p : Prop) [c : Chk p] : Cond := ⟨p, c.b, c.h⟩
abbrev rawC (p : Prop) : Cond := ⟨p, false, fun h => by cases h⟩
instance chkCond {c : Cond} : Chk c.p := ⟨c.b, c.h⟩

end Go.Ped
