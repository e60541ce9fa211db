/-
  Lines, told as lists of numbers: what the functions of the first chapter compute; no condition.
-/
import Derived.Test.YtemicglkmnjibaaGreatDoorWords
namespace Go.Proofs.YtemicglkmnjibaaGreatDoor

def isSign (c : Nat) : Bool := c == 84 || c == 70 || c == 46
def lineB (l : List Nat) (m : Nat) : Bool := decide (1 ≤ l.length) && decide (l.length ≤ m) && l.all isSign
def otherN (c : Nat) : Nat := if c = 84 then 70 else if c = 70 then 84 else c
def stepZ (c : Nat) : Int := if c = 84 then 1 else if c = 70 then -1 else 0
def atZ (l : List Nat) (i : Int) : Nat := if 0 ≤ i then chN l i.toNat else 0
def goalZ (l : List Nat) (i : Nat) : Option Int :=
  if stepZ (chN l i) = 0 then none
  else if atZ l (i + stepZ (chN l i)) = 46 then some (i + stepZ (chN l i))
  else if atZ l (i + stepZ (chN l i)) = otherN (chN l i) ∧ atZ l (i + 2 * stepZ (chN l i)) = 46 then some (i + 2 * stepZ (chN l i)) else none
def moveAt (l ks : List Nat) (i : Nat) : Option (Int × Int) := if ks.contains (chN l i) then (goalZ l i).map fun t => ((i : Int), t) else none
def movesUpto (l ks : List Nat) (k : Nat) : List (Int × Int) := (List.range k).filterMap (moveAt l ks)
def movesL (l ks : List Nat) : List (Int × Int) := movesUpto l ks l.length
def canZ (l : List Nat) (m : Int × Int) : Bool := decide (0 ≤ m.1) && decide (m.1 < l.length) && (goalZ l m.1.toNat == some m.2)
def madeL (l : List Nat) (m : Int × Int) : List Nat := (l.set m.2.toNat (chN l m.1.toNat)).set m.1.toNat 46
def turnedL (l : List Nat) : List Nat := l.reverse.map otherN
def jumpZ (m : Int × Int) : Bool := decide (m.2 - m.1 ≠ 1) && decide (m.1 - m.2 ≠ 1)
theorem movesUpto_succ (l ks : List Nat) (k : Nat) : movesUpto l ks (k + 1) = movesUpto l ks k ++ (moveAt l ks k).toList := by
  unfold movesUpto
  rw [List.range_succ, List.filterMap_append]
  cases h : moveAt l ks k <;> simp [h]
theorem movesUpto_length (l ks : List Nat) (k : Nat) : (movesUpto l ks k).length ≤ k := by
  induction k with
  | zero => simp [movesUpto]
  | succ k ih =>
    rw [movesUpto_succ, List.length_append]
    have : (moveAt l ks k).toList.length ≤ 1 := by cases moveAt l ks k <;> simp
    omega
theorem atZ_nat (l : List Nat) (k : Nat) : atZ l (k : Int) = chN l k := by simp [atZ]
theorem atZ_neg {l : List Nat} {i : Int} (h : i < 0) : atZ l i = 0 := by unfold atZ; rw [if_neg (by omega)]
theorem atZ_ge {l : List Nat} {i : Int} (h : (l.length : Int) ≤ i) : atZ l i = 0 := by
  unfold atZ
  split
  · exact chN_ge (by omega)
  · rfl
theorem lineB_iff {l : List Nat} {m : Nat} : lineB l m = true ↔ 1 ≤ l.length ∧ l.length ≤ m ∧ ∀ c ∈ l, isSign c = true := by
  unfold lineB
  rw [Bool.and_eq_true, Bool.and_eq_true, decide_eq_true_iff, decide_eq_true_iff, List.all_eq_true, and_assoc]
theorem isSign_iff {c : Nat} : isSign c = true ↔ c = 84 ∨ c = 70 ∨ c = 46 := by
  unfold isSign
  simp [or_assoc]
def wayF : List Nat → Int → Int → Int → Int → Int
  | [], _, _, _, s => s
  | c :: r, i, t, f, s => if c = 84 then wayF r (i + 1) (t + 1) f (s + (t - i)) else if c = 70 then wayF r (i + 1) t (f + 1) (s + (i - f)) else wayF r (i + 1) t f s
def wayZ (l : List Nat) : Int := wayF l 0 (l.length - l.count 84) 0 0
def pairsF : List Nat → Int → Int → Int
  | [], _, s => s
  | c :: r, t, s => if c = 84 then pairsF r (t + 1) s else if c = 70 then pairsF r t (s + t) else pairsF r t s
def pairsZ (l : List Nat) : Int := pairsF l 0 0
theorem drop_chN {l : List Nat} {k : Nat} (h : k < l.length) : l.drop k = chN l k :: l.drop (k + 1) := by
  rw [chN_of_lt h]; exact List.drop_eq_getElem_cons h
/-- What comes of functions that ask for a line first. -/
def TF : List Nat := [84, 70]
def movesOf (l ks : List Nat) : List (Int × Int) := if lineB l 12 = true then movesL l ks else []
def mkOk (l : List Nat) (m : Int × Int) : Bool := lineB l 12 && canZ l m
def madeB (l : List Nat) (m : Int × Int) : ByteArray := if mkOk l m = true then bB (madeL l m) else ⟨#[]⟩
def otherB (l : List Nat) : ByteArray := if lineB l 12 = true then bB (turnedL l) else ⟨#[]⟩
def wayOf (l : List Nat) : Int := if lineB l 12 = true then wayZ l else 0
def pairsOf (l : List Nat) : Int := if lineB l 12 = true then pairsZ l else 0
def blockedZ (l : List Nat) : Bool := (movesL l TF).isEmpty
end Go.Proofs.YtemicglkmnjibaaGreatDoor
