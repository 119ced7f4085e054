/- Canon and Compose: what the program's functions reckon, as written (no program here). -/
import Derived.Test.YtbpjoamdcbbnnaaTabBits
set_option linter.unusedSimpArgs false
set_option linter.unusedVariables false
namespace Go.Tab

/-- What Canon has found: the table and how it came by it. -/
abbrev FoundT := BitVec 64 × List Int × Nat × Bool
/-- try's two rounds: d are left. -/
def tryAt (n : Nat) (l : List Int) (f : Nat) : Nat → BitVec 64 → FoundT → FoundT
  | 0, _, y => y
  | d + 1, u, y =>
    let b := decide (d = 0)
    let u1 := if b = true then u ^^^ maskT (lim n) else u
    tryAt n l f d u1 (if u1 < y.1 then (u1, l, f, b) else y)
def tryR (n : Nat) (f : Nat) (w : BitVec 64) (y : FoundT) (l : List Int) : FoundT := tryAt n l f 2 (permuteR w n l) y
def idL (n : Nat) : List Int := (List.range n).map fun (i : Nat) => (i : Int)
/-- Canon's loop over the flips. -/
def canonGo (t : BitVec 64) (n : Nat) : Nat → Nat → FoundT → FoundT
  | 0, _, y => y
  | d + 1, f, y => canonGo t n d (f + 1) ((perms n n (idL n)).foldl (tryR n f (ApplyR t n (idL n) f false).1) y)
def CanonR (t : BitVec 64) (n : Int) : FoundT × Int :=
  if 4 < n ∨ validT t n = false then ((0#64, [], 0, false), 1) else (canonGo t n.toNat (2 ^ n.toNat) 0 (t, idL n.toNat, 0, false), 0)

/-- Compose's inner loop. -/
def prodGo (k : Nat) : List (BitVec 64) → Nat → BitVec 64 → BitVec 64
  | [], _, p => p
  | a :: l, i, p => prodGo k l (i + 1) (if k.testBit i = true then p &&& a else p &&& ~~~ a)
def compGo (t : BitVec 64) (l : List (BitVec 64)) (mask : BitVec 64) : Nat → Nat → BitVec 64 → BitVec 64
  | 0, _, out => out
  | d + 1, k, out => compGo t l mask d (k + 1) (if evT t k = true then out ||| prodGo k l 0 mask else out)
def ComposeR (t : BitVec 64) (n : Int) (l : List (BitVec 64)) (m : Int) : BitVec 64 × Int :=
  if validT t n = false then (0#64, 1) else if (l.length : Int) ≠ n then (0#64, 12)
  else if validT 0#64 m = false ∨ l.any (fun a => !validT a m) = true then (0#64, 1)
  else (compGo t l (maskT (lim m)) (2 ^ n.toNat) 0 0#64, 0)
/-- slices.IndexFunc. -/
def idxFrom (p : BitVec 64 → Bool) : List (BitVec 64) → Nat → Int
  | [], _ => -1
  | x :: l, j => if p x = true then j else idxFrom p l (j + 1)
theorem idxFrom_ge (p : BitVec 64 → Bool) : ∀ (l : List (BitVec 64)) (j : Nat), decide (idxFrom p l j ≥ 0) = l.any p
  | [], j => rfl
  | x :: l, j => by
    have ih := idxFrom_ge p l (j + 1)
    by_cases h : p x = true
    · simp [idxFrom, h]
    · have h' : p x = false := by simpa using h
      rw [List.any_cons, h', Bool.false_or, ← ih]
      simp [idxFrom, h']
end Go.Tab
