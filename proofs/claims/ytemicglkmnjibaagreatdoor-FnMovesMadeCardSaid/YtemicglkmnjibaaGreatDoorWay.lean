/-
  How far all have to go, reckoned in two ways; no condition.
-/
import Derived.Test.YtemicglkmnjibaaGreatDoorModel1
namespace Go.Proofs.YtemicglkmnjibaaGreatDoor
/-- The places of a sign, added up. -/
def sumPos : List Nat → Nat → Int → Int
  | [], _, _ => 0
  | x :: r, c, i => (if x = c then i else 0) + sumPos r c (i + 1)
def tri (a : Int) : Nat → Int
  | 0 => 0
  | n + 1 => a + tri (a + 1) n
def lastL (l : List Nat) : List Nat := List.replicate (l.count 70) 70 ++ List.replicate (l.count 46) 46 ++ List.replicate (l.count 84) 84
theorem tri_succ (a : Int) (n : Nat) : tri a (n + 1) = a + tri (a + 1) n := rfl
theorem sumPos_append (a b : List Nat) (c : Nat) : ∀ i : Int, sumPos (a ++ b) c i = sumPos a c i + sumPos b c (i + a.length) := by
  induction a with
  | nil => intro i; simp [sumPos]
  | cons x a ih => intro i; simp only [List.cons_append, sumPos, ih, List.length_cons]; rw [show i + 1 + (a.length : Int) = i + ((a.length + 1 : Nat) : Int) by omega]; omega
theorem sumPos_same (c n : Nat) : ∀ i : Int, sumPos (List.replicate n c) c i = tri i n := by
  induction n with
  | zero => intro i; rfl
  | succ n ih => intro i; rw [List.replicate_succ, sumPos, if_pos rfl, ih, tri_succ]
theorem sumPos_other {x c : Nat} (h : x ≠ c) (n : Nat) : ∀ i : Int, sumPos (List.replicate n x) c i = 0 := by
  induction n with
  | zero => intro i; rfl
  | succ n ih => intro i; rw [List.replicate_succ, sumPos, if_neg h, ih]; rfl
theorem wayF_eq (l : List Nat) : ∀ i t f s : Int, wayF l i t f s = s + tri t (l.count 84) - sumPos l 84 i + sumPos l 70 i - tri f (l.count 70) := by
  induction l with
  | nil => intro i t f s; simp [wayF, tri, sumPos]
  | cons c r ih =>
    intro i t f s
    unfold wayF
    by_cases h1 : c = 84
    · rw [if_pos h1, ih]; subst h1
      rw [List.count_cons_self, tri_succ, List.count_cons_of_ne (by decide), sumPos, if_pos rfl, sumPos, if_neg (by decide)]; omega
    · rw [if_neg h1]
      by_cases h2 : c = 70
      · rw [if_pos h2, ih]; subst h2
        rw [List.count_cons_self, tri_succ, List.count_cons_of_ne (by decide), sumPos, if_neg (by decide), sumPos, if_pos rfl]; omega
      · rw [if_neg h2, ih, List.count_cons_of_ne h1, List.count_cons_of_ne h2, sumPos, if_neg h1, sumPos, if_neg h2]; omega
theorem count_line {l : List Nat} (h : ∀ c ∈ l, isSign c = true) : l.count 84 + l.count 46 + l.count 70 = l.length := by
  induction l with
  | nil => rfl
  | cons c r ih =>
    have ih' := ih (fun x hx => h x (List.mem_cons_of_mem _ hx))
    rcases isSign_iff.1 (h c (List.mem_cons_self ..)) with e | e | e
    all_goals subst e; simp at *; omega
theorem lastL_length {l : List Nat} (h : ∀ c ∈ l, isSign c = true) : (lastL l).length = l.length := by
  rw [← count_line h]; simp [lastL]; omega
def wayS (l : List Nat) : Int := sumPos (lastL l) 84 0 - sumPos l 84 0 + sumPos l 70 0 - sumPos (lastL l) 70 0
theorem wayS_eq {l : List Nat} (h : ∀ c ∈ l, isSign c = true) : wayS l = wayZ l := by
  have hc := count_line h
  unfold wayS wayZ
  rw [wayF_eq]
  have e1 : sumPos (lastL l) 84 0 = tri (l.length - l.count 84) (l.count 84) := by
    unfold lastL
    rw [sumPos_append, sumPos_append, sumPos_other (by decide), sumPos_other (by decide), sumPos_same]
    simp only [List.length_append, List.length_replicate]
    rw [show (0 : Int) + ((l.count 70 + l.count 46 : Nat) : Int) = (l.length : Int) - (l.count 84 : Nat) by omega]; omega
  have e2 : sumPos (lastL l) 70 0 = tri 0 (l.count 70) := by
    unfold lastL
    rw [sumPos_append, sumPos_append, sumPos_same, sumPos_other (by decide), sumPos_other (by decide)]; omega
  rw [e1, e2]; omega
def firstL (a b c : Nat) : List Nat := List.replicate a 84 ++ List.replicate b 46 ++ List.replicate c 70
end Go.Proofs.YtemicglkmnjibaaGreatDoor
