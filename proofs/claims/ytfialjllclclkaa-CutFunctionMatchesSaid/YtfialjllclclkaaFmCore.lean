/- Shaken texts of the layer and of the walks. -/
import Derived.CallsIn
import Derived.OrdersIn
import Derived.TacticsIn
import Derived.OwnWalkIn
import Derived.RangeFuncLeaves
import Derived.RangeFuncRecord
import Derived.Orders
import Derived.Below
namespace Go.Abs
open Go.RowKit

structure Loc where
  blk : Nat
  base : Nat
  n : Nat
  esz : Nat

abbrev Ren := Nat → Option Loc

inductive VRel (ι : Ren) : Value → Value → Prop
  | bool (b : Bool) : VRel ι (.bool b) (.bool b)
  | int (k : IntKind) (n : Int) : VRel ι (.int k n) (.int k n)
  | float (k : FloatKind) (b : Nat) : VRel ι (.float k b) (.float k b)
  | complex (k : FloatKind) (x y : Nat) : VRel ι (.complex k x y) (.complex k x y)
  | str (s : ByteArray) : VRel ι (.string s) (.string s)
  | nilp : VRel ι (.pointer none) (.pointer none)
  | ptr {i off : Nat} {L : Loc} : ι i = some L → VRel ι (.pointer (some ⟨i, off, none⟩)) (.pointer (some ⟨L.blk, L.base + off, none⟩))
  | nils : VRel ι (.slice none 0 0) (.slice none 0 0)
  | slice {i off len cap x cap' : Nat} {L : Loc} : ι i = some L → (x = L.base + off ∨ (len = 0 ∧ cap = 0)) → len ≤ cap → cap ≤ cap' → (cap' = 0 ∨ x + cap' * L.esz ≤ L.n) →
      VRel ι (.slice (some ⟨i, off, none⟩) len cap) (.slice (some ⟨L.blk, x, none⟩) len cap')
  | nilm : VRel ι (.map none) (.map none)
  | map {i : Nat} {L : Loc} : ι i = some L → VRel ι (.map (some i)) (.map (some L.blk))
  | nilc : VRel ι (.chan none) (.chan none)
  | nilf : VRel ι .nilFunc .nilFunc
  | yield {i : Nat} {L : Loc} : ι i = some L → VRel ι (.func (.yield i) #[] #[]) (.func (.yield L.blk) #[] #[])
  | func {fn : Fn} {xs ys cs ds : Array Value} : (∀ l, fn ≠ .yield l) → xs.size = ys.size → cs.size = ds.size →
      (∀ (i : Nat) (v v' : Value), xs[i]? = some v → ys[i]? = some v' → VRel ι v v') →
      (∀ (i : Nat) (v v' : Value), cs[i]? = some v → ds[i]? = some v' → VRel ι v v') → VRel ι (.func fn xs cs) (.func fn ys ds)
  | niface : VRel ι .nilIface .nilIface
  | iface {t : TypeId} {v v' : Value} : VRel ι v v' → VRel ι (.iface t v) (.iface t v')
  | agg {xs ys : Array Value} : xs.size = ys.size →
      (∀ (i : Nat) (v v' : Value), xs[i]? = some v → ys[i]? = some v' → VRel ι v v') → VRel ι (.agg xs) (.agg ys)
  | tuple {xs ys : Array Value} : xs.size = ys.size →
      (∀ (i : Nat) (v v' : Value), xs[i]? = some v → ys[i]? = some v' → VRel ι v v') → VRel ι (.tuple xs) (.tuple ys)

def Ext (ι ι' : Ren) : Prop := ∀ i L, ι i = some L → ι' i = some L

theorem Ext.refl (ι : Ren) : Ext ι ι := fun _ _ h => h
theorem Ext.trans {a b c : Ren} (h : Ext a b) (k : Ext b c) : Ext a c := fun i L hi => k i L (h i L hi)

theorem VRel.mono {ι ι' : Ren} (hx : Ext ι ι') {v v' : Value} (h : VRel ι v v') : VRel ι' v v' := by
  induction h with
  | bool b => exact .bool b
  | int k n => exact .int k n
  | float k b => exact .float k b
  | complex k x y => exact .complex k x y
  | str s => exact .str s
  | nilp => exact .nilp
  | ptr h => exact .ptr (hx _ _ h)
  | nils => exact .nils
  | slice h a b c d => exact .slice (hx _ _ h) a b c d
  | nilm => exact .nilm
  | map h => exact .map (hx _ _ h)
  | nilc => exact .nilc
  | nilf => exact .nilf
  | yield h => exact .yield (hx _ _ h)
  | func hy a b _ _ h1 h2 => exact .func hy a b h1 h2
  | niface => exact .niface
  | iface _ h => exact .iface h
  | agg a _ h => exact .agg a h
  | tuple a _ h => exact .tuple a h

theorem VRel.back {ι ι' ι2 : Ren} (hx : Ext ι ι2) (h : ∀ i L, ι i = some L → ι' i = some L) {v u u' : Value} (h1 : VRel ι v u) (h2 : VRel ι' v u') : VRel ι2 v u' := by
  induction h1 generalizing u' with
  | bool b => cases h2; exact .bool b
  | int k n => cases h2; exact .int k n
  | float k b => cases h2; exact .float k b
  | complex k x y => cases h2; exact .complex k x y
  | str s => cases h2; exact .str s
  | nilp => cases h2; exact .nilp
  | ptr g => cases h2 with | ptr g' => rw [h _ _ g] at g'; cases g'; exact .ptr (hx _ _ g)
  | nils => cases h2; exact .nils
  | slice g a b c d => cases h2 with | slice g' a' b' c' d' => rw [h _ _ g] at g'; cases g'; exact .slice (hx _ _ g) a' b' c' d'
  | nilm => cases h2; exact .nilm
  | map g => cases h2 with | map g' => rw [h _ _ g] at g'; cases g'; exact .map (hx _ _ g)
  | nilc => cases h2; exact .nilc
  | nilf => cases h2; exact .nilf
  | yield g => cases h2 with
    | yield g' => rw [h _ _ g] at g'; cases g'; exact .yield (hx _ _ g)
    | func hy => exact absurd rfl (hy _)
  | func hy a b h3 h4 i3 i4 =>
    cases h2 with
    | yield g' => exact absurd rfl (hy _)
    | func _ a' b' h5 h6 =>
      refine .func hy a' b' (fun i v v' hv hv' => ?_) (fun i v v' hv hv' => ?_)
      · have : i < _ := (Array.getElem?_eq_some_iff.1 hv).1
        exact i3 i v _ hv (Array.getElem?_eq_getElem (a ▸ this)) (h5 i v v' hv hv')
      · have : i < _ := (Array.getElem?_eq_some_iff.1 hv).1
        exact i4 i v _ hv (Array.getElem?_eq_getElem (b ▸ this)) (h6 i v v' hv hv')
  | niface => cases h2; exact .niface
  | iface _ ih => cases h2 with | iface h2 => exact .iface (ih h2)
  | agg a h3 i3 =>
    cases h2 with
    | agg a' h5 =>
      refine .agg a' (fun i v v' hv hv' => ?_)
      have : i < _ := (Array.getElem?_eq_some_iff.1 hv).1
      exact i3 i v _ hv (Array.getElem?_eq_getElem (a ▸ this)) (h5 i v v' hv hv')
  | tuple a h3 i3 =>
    cases h2 with
    | tuple a' h5 =>
      refine .tuple a' (fun i v v' hv hv' => ?_)
      have : i < _ := (Array.getElem?_eq_some_iff.1 hv).1
      exact i3 i v _ hv (Array.getElem?_eq_getElem (a ▸ this)) (h5 i v v' hv hv')

def VRels (ι : Ren) (xs ys : List Value) : Prop := xs.length = ys.length ∧ ∀ (i : Nat) (v v' : Value), xs[i]? = some v → ys[i]? = some v' → VRel ι v v'

theorem VRels.nil {ι : Ren} : VRels ι [] [] := ⟨rfl, by simp⟩
theorem VRels.cons {ι : Ren} {x y : Value} {xs ys : List Value} (h : VRel ι x y) (hs : VRels ι xs ys) : VRels ι (x :: xs) (y :: ys) := by
  refine ⟨by simp [hs.1], fun i v v' a b => ?_⟩
  cases i with
  | zero => simp at a b; subst a; subst b; exact h
  | succ i => simp at a b; exact hs.2 i v v' a b
theorem VRels.uncons {ι : Ren} {x : Value} {xs ys : List Value} (h : VRels ι (x :: xs) ys) : ∃ y ys', ys = y :: ys' ∧ VRel ι x y ∧ VRels ι xs ys' := by
  obtain ⟨hl, h⟩ := h
  cases ys with
  | nil => simp at hl
  | cons y ys => exact ⟨y, ys, rfl, h 0 x y rfl rfl, by simpa using hl, fun i v v' a b => h (i + 1) v v' (by simpa using a) (by simpa using b)⟩
theorem VRels.of_nil {ι : Ren} {ys : List Value} (h : VRels ι [] ys) : ys = [] := by
  obtain ⟨hl, _⟩ := h
  cases ys with
  | nil => rfl
  | cons y ys => simp at hl
theorem VRels.get {ι : Ren} {xs ys : List Value} (h : VRels ι xs ys) {i : Nat} {v : Value} (hv : xs[i]? = some v) : ∃ v', ys[i]? = some v' ∧ VRel ι v v' := by
  have hi : i < xs.length := (List.getElem?_eq_some_iff.1 hv).1
  have hi' : i < ys.length := h.1 ▸ hi
  exact ⟨ys[i], List.getElem?_eq_getElem hi', h.2 i v _ hv (List.getElem?_eq_getElem hi')⟩
theorem VRels.mono {ι ι' : Ren} (hx : Ext ι ι') {xs ys : List Value} (h : VRels ι xs ys) : VRels ι' xs ys :=
  ⟨h.1, fun i v v' a b => (h.2 i v v' a b).mono hx⟩

def flat0 : Value → Bool
  | .bool _ | .int _ _ | .float _ _ | .complex _ _ _ | .string _ | .pointer none | .map none | .chan none | .nilFunc | .nilIface => true
  | .slice none 0 0 => true
  | _ => false
def flat : Value → Bool
  | .agg cs => cs.toList.all flat0
  | .tuple cs => cs.toList.all flat0
  | v => flat0 v

theorem flat0_iff {ι : Ren} {v v' : Value} (h : flat0 v = true) : VRel ι v v' ↔ v' = v := by
  constructor
  · intro r
    cases r <;> simp_all [flat0]
  · rintro rfl
    unfold flat0 at h
    split at h
    any_goals constructor
    cases h
theorem flat_iff {ι : Ren} {v v' : Value} (h : flat v = true) : VRel ι v v' ↔ v' = v := by
  have key : ∀ cs : Array Value, cs.toList.all flat0 = true → ∀ i x, cs[i]? = some x → flat0 x = true := fun cs hc i x hx => by
    rw [List.all_eq_true] at hc
    exact hc x (Array.mem_toList_iff.2 (Array.mem_of_getElem? hx))
  have ext : ∀ xs ys : Array Value, xs.toList.all flat0 = true → xs.size = ys.size → (∀ (i : Nat) (v v' : Value), xs[i]? = some v → ys[i]? = some v' → VRel ι v v') → ys = xs := by
    intro xs ys hc hs hh
    apply Array.ext hs.symm
    intro i h1 h2
    have := hh i xs[i] ys[i] (Array.getElem?_eq_getElem h2) (Array.getElem?_eq_getElem h1)
    exact (flat0_iff (key xs hc i _ (Array.getElem?_eq_getElem h2))).1 this
  have back : ∀ xs : Array Value, xs.toList.all flat0 = true → (∀ (i : Nat) (v v' : Value), xs[i]? = some v → xs[i]? = some v' → VRel ι v v') := by
    intro xs hc i v v' a b
    rw [a] at b; cases b
    exact (flat0_iff (key xs hc i v a)).2 rfl
  unfold flat at h
  split at h
  · rename_i cs
    constructor
    · intro r; cases r with | agg hs hh => rw [ext _ _ h hs hh]
    · rintro rfl; exact .agg rfl (back _ h)
  · rename_i cs
    constructor
    · intro r; cases r with | tuple hs hh => rw [ext _ _ h hs hh]
    · rintro rfl; exact .tuple rfl (back _ h)
  · exact flat0_iff h
theorem VRel.of_flat {ι : Ren} {v : Value} (h : flat v = true) : VRel ι v v := (flat_iff h).2 rfl

abbrev Env := List (Nat × Value)
def Env.get : Env → Nat → Option Value
  | [], _ => none
  | (t, v) :: e, x => if t = x then some v else Env.get e x
structure LInfo where
  n : Nat
  params : Array Tmp
  assign : Code
  body : Code
  env : Env
inductive LSt where
  | ready
  | left (j : Option Nat)
def LSt.pending : LSt → Option Code
  | .ready => none
  | .left none => some .ret
  | .left (some id) => some (.exit id)
inductive ESz where
  | n (k : Nat)
  | loop (i : LInfo) (s : LSt)
  | map (es : List (Value × Value))
instance : Coe Nat ESz := ⟨.n⟩
instance (k : Nat) : OfNat ESz k := ⟨.n k⟩
structure Blk where
  cells : List Value
  own : Bool
  esz : ESz

abbrev AHeap := Nat → Option Blk

def AHeap.set (σ : AHeap) (i : Nat) (b : Blk) : AHeap := fun j => if j = i then some b else σ j
def AHeap.del (σ : AHeap) (i : Nat) : AHeap := fun j => if j = i then none else σ j
def AHeap.le (σ σ' : AHeap) : Prop := ∀ i b, σ i = some b → σ' i = some b
theorem AHeap.le_refl (σ : AHeap) : σ.le σ := fun _ _ h => h
theorem AHeap.le_trans {a b c : AHeap} (h : a.le b) (k : b.le c) : a.le c := fun i x hx => k i x (h i x hx)
theorem AHeap.set_self (σ : AHeap) (i : Nat) (b : Blk) : σ.set i b i = some b := by simp [AHeap.set]
theorem AHeap.set_ne (σ : AHeap) {i j : Nat} (b : Blk) (h : j ≠ i) : σ.set i b j = σ j := by simp [AHeap.set, h]
theorem AHeap.del_ne (σ : AHeap) {i j : Nat} (h : j ≠ i) : σ.del i j = σ j := by simp [AHeap.del, h]

structure RecRel (ι : Ren) (i : LInfo) (s : LSt) (r : Loop) : Prop where
  state : r.state = (match s with | .ready => .ready | .left _ => .done)
  pending : r.pending = s.pending
  params : r.params = i.params
  assign : r.assign = i.assign
  body : r.body = i.body
  size : r.tmps.size = i.n
  get : ∀ (t : Nat) (v : Value), i.env.get t = some v → ∃ v', r.tmps[t]? = some v' ∧ VRel ι v v'
def MapRel (ι : Ren) (es : List (Value × Value)) (ms : Array MapEntry) (t : Nat) : Prop := ms.size = es.length ∧ (∀ (j : Nat) (k v : Value), es[j]? = some (k, v) → ∃ e, ms[j]? = some e ∧ VRel ι k e.key ∧ VRel ι v e.val) ∧ t = es.length ∧ ∀ (j : Nat) (e : MapEntry), ms[j]? = some e → e.born = j
def BlkRel (ι : Ren) (b : Blk) (L : Loc) (w : World) : Prop := match b.esz with
  | .n k => L.esz = k ∧ ∃ c e fz, w.heap[L.blk]? = some (.cells c e fz) ∧ c.size = L.n ∧ L.base + b.cells.length ≤ L.n ∧ (b.own = true → fz = (0, 0)) ∧
    ∀ (j : Nat) (v : Value), b.cells[j]? = some v → ∃ v', c[L.base + j]? = some v' ∧ VRel ι v v'
  | .loop i s => (b.cells = [] ∧ b.own = true) ∧ ∃ r, w.heap[L.blk]? = some (.loop r) ∧ RecRel ι i s r
  | .map es => (b.cells = [] ∧ b.own = true) ∧ ∃ ms t, w.heap[L.blk]? = some (.map ms t) ∧ MapRel ι es ms t
theorem BlkRel.rowOf {ι : Ren} {b : Blk} {L : Loc} {w : World} (h : BlkRel ι b L w) {k : Nat} (hk : b.esz = .n k) : L.esz = k ∧ ∃ c e fz, w.heap[L.blk]? = some (.cells c e fz) ∧ c.size = L.n ∧ L.base + b.cells.length ≤ L.n ∧ (b.own = true → fz = (0, 0)) ∧
    ∀ (j : Nat) (v : Value), b.cells[j]? = some v → ∃ v', c[L.base + j]? = some v' ∧ VRel ι v v' := by
  unfold BlkRel at h
  rw [hk] at h
  exact h
theorem BlkRel.mk {ι : Ren} {b : Blk} {L : Loc} {w : World} (hk : b.esz = .n L.esz) (h : ∃ c e fz, w.heap[L.blk]? = some (.cells c e fz) ∧ c.size = L.n ∧ L.base + b.cells.length ≤ L.n ∧ (b.own = true → fz = (0, 0)) ∧
    ∀ (j : Nat) (v : Value), b.cells[j]? = some v → ∃ v', c[L.base + j]? = some v' ∧ VRel ι v v') : BlkRel ι b L w := by
  unfold BlkRel
  rw [hk]
  exact ⟨rfl, h⟩
theorem BlkRel.rowC {ι : Ren} {b : Blk} {L : Loc} {w : World} (h : BlkRel ι b L w) (hc : b.cells ≠ []) : b.esz = .n L.esz := by
  unfold BlkRel at h
  split at h
  · rename_i k hk; rw [hk, h.1]
  · exact absurd h.1.1 hc
  · exact absurd h.1.1 hc
theorem BlkRel.esz {ι : Ren} {b : Blk} {L : Loc} {w : World} (h : BlkRel ι b L w) {k : Nat} (hk : b.esz = .n k) : L.esz = k := (h.rowOf hk).1
theorem BlkRel.ex {ι : Ren} {b : Blk} {L : Loc} {w : World} (h : BlkRel ι b L w) (hk : ∃ k, b.esz = .n k) : ∃ c e fz, w.heap[L.blk]? = some (.cells c e fz) ∧ c.size = L.n ∧ L.base + b.cells.length ≤ L.n ∧ (b.own = true → fz = (0, 0)) ∧
    ∀ (j : Nat) (v : Value), b.cells[j]? = some v → ∃ v', c[L.base + j]? = some v' ∧ VRel ι v v' := let ⟨_, hk⟩ := hk; (h.rowOf hk).2
def Blk.row (b : Blk) : Prop := ∃ k, b.esz = .n k
theorem BlkRel.loopOf {ι : Ren} {b : Blk} {L : Loc} {w : World} (h : BlkRel ι b L w) {i : LInfo} {s : LSt} (hk : b.esz = .loop i s) : (b.cells = [] ∧ b.own = true) ∧ ∃ r, w.heap[L.blk]? = some (.loop r) ∧ RecRel ι i s r := by
  unfold BlkRel at h
  rw [hk] at h
  exact h
theorem BlkRel.mapOf {ι : Ren} {b : Blk} {L : Loc} {w : World} (h : BlkRel ι b L w) {es : List (Value × Value)} (hk : b.esz = .map es) : (b.cells = [] ∧ b.own = true) ∧ ∃ ms t, w.heap[L.blk]? = some (.map ms t) ∧ MapRel ι es ms t := by
  unfold BlkRel at h
  rw [hk] at h
  exact h
theorem BlkRel.obj {ι : Ren} {b : Blk} {L : Loc} {w : World} (h : BlkRel ι b L w) : ∃ o, w.heap[L.blk]? = some o ∧ ∀ d, o ≠ .deferred d := by
  unfold BlkRel at h
  split at h
  · obtain ⟨_, c, e, fz, h1, _⟩ := h; exact ⟨_, h1, by simp⟩
  · obtain ⟨_, r, h1, _⟩ := h; exact ⟨_, h1, by simp⟩
  · obtain ⟨_, ms, t, h1, _⟩ := h; exact ⟨_, h1, by simp⟩

structure Rel (ι : Ren) (N : Nat) (σ : AHeap) (w : World) : Prop where
  dom : ∀ i, N ≤ i → ι i = none
  blk : ∀ i b, σ i = some b → ∃ L, ι i = some L ∧ BlkRel ι b L w
  inj : ∀ i j bi bj Li Lj, i ≠ j → σ i = some bi → σ j = some bj → ι i = some Li → ι j = some Lj → (bi.own = true ∨ bj.own = true) → Li.blk ≠ Lj.blk

def Own (ι : Ren) (σ : AHeap) (β : Nat) : Prop := ∃ i b L, σ i = some b ∧ b.own = true ∧ ι i = some L ∧ L.blk = β

structure Tr (ι : Ren) (N : Nat) (σ : AHeap) (w : World) (ι' : Ren) (N' : Nat) (σ' : AHeap) (w' : World) : Prop where
  ext : Ext ι ι'
  old : ∀ i, i < N → ι' i = ι i
  le : N ≤ N'
  os : w'.os = w.os
  tape : w'.tape = w.tape
  output : w'.output = w.output
  size : w.heap.size ≤ w'.heap.size
  frame : ∀ β, β < w.heap.size → ¬ Own ι σ β → w'.heap[β]? = w.heap[β]?
  own : ∀ β, Own ι' σ' β → Own ι σ β ∨ w.heap.size ≤ β

theorem Tr.refl (ι : Ren) (N : Nat) (σ : AHeap) (w : World) : Tr ι N σ w ι N σ w :=
  ⟨Ext.refl _, fun _ _ => rfl, Nat.le_refl _, rfl, rfl, rfl, Nat.le_refl _, fun _ _ _ => rfl, fun _ h => .inl h⟩
theorem Tr.trans {ι ι1 ι2 : Ren} {N N1 N2 : Nat} {σ σ1 σ2 : AHeap} {w w1 w2 : World} (h : Tr ι N σ w ι1 N1 σ1 w1) (k : Tr ι1 N1 σ1 w1 ι2 N2 σ2 w2) : Tr ι N σ w ι2 N2 σ2 w2 := by
  refine ⟨h.ext.trans k.ext, fun i hi => (k.old i (Nat.lt_of_lt_of_le hi h.le)).trans (h.old i hi), Nat.le_trans h.le k.le, k.os.trans h.os, k.tape.trans h.tape, k.output.trans h.output, Nat.le_trans h.size k.size, fun β hb ho => ?_, fun β ho => ?_⟩
  · rw [k.frame β (Nat.lt_of_lt_of_le hb h.size) (fun ho1 => ?_), h.frame β hb ho]
    rcases h.own β ho1 with h1 | h1
    · exact ho h1
    · omega
  · rcases k.own β ho with h1 | h1
    · exact h.own β h1
    · exact .inr (Nat.le_trans h.size h1)
theorem Own.le {ι : Ren} {σ σ' : AHeap} (hl : σ'.le σ) {β : Nat} (h : Own ι σ' β) : Own ι σ β :=
  let ⟨i, b, L, h1, h2, h3, h4⟩ := h; ⟨i, b, L, hl _ _ h1, h2, h3, h4⟩
theorem Tr.forget {ι ι' : Ren} {N N' : Nat} {σ σ' σ'' : AHeap} {w w' : World} (h : Tr ι N σ w ι' N' σ' w') (hl : σ''.le σ') : Tr ι N σ w ι' N' σ'' w' :=
  ⟨h.ext, h.old, h.le, h.os, h.tape, h.output, h.size, h.frame, fun β ho => h.own β (ho.le hl)⟩
theorem Rel.forget {ι : Ren} {N : Nat} {σ σ' : AHeap} {w : World} (h : Rel ι N σ w) (hl : σ'.le σ) : Rel ι N σ' w :=
  ⟨h.dom, fun i b hb => h.blk i b (hl _ _ hb), fun i j bi bj Li Lj hne hi hj => h.inj i j bi bj Li Lj hne (hl _ _ hi) (hl _ _ hj)⟩

theorem Rel.drawn {ι : Ren} {N : Nat} {σ : AHeap} {w : World} (h : Rel ι N σ w) (n : Nat) : Rel ι N σ { w with drawn := n } :=
  ⟨h.dom, fun i b hb => let ⟨L, h1, h2⟩ := h.blk i b hb; ⟨L, h1, h2⟩, h.inj⟩
theorem Tr.drawn (ι : Ren) (N : Nat) (σ : AHeap) (w : World) (n : Nat) : Tr ι N σ w ι N σ { w with drawn := n } :=
  ⟨Ext.refl _, fun _ _ => rfl, Nat.le_refl _, rfl, rfl, rfl, Nat.le_refl _, fun _ _ _ => rfl, fun _ h => .inl h⟩

def Env.put (e : Env) (dst : Option Tmp) (v : Value) : Env :=
  match dst with
  | some d => (d, v) :: e
  | none => e
def Env.eval (e : Env) : Operand → Option Value
  | .tmp t => e.get t
  | .const v => if flat v then some v else none
  | .global _ => none
  | .func f => some (.func (.func f) #[] #[])

structure EnvRel (ι : Ren) (n : Nat) (ds : List Deferred) (env : Env) (a : Act) : Prop where
  size : a.tmps.size = n
  defers : a.defers = ds
  get : ∀ t v, env.get t = some v → ∃ v', a.tmps[t]? = some v' ∧ VRel ι v v'

theorem EnvRel.mono {ι ι' : Ren} {n : Nat} {ds : List Deferred} {env : Env} {a : Act} (h : EnvRel ι n ds env a) (hx : Ext ι ι') : EnvRel ι' n ds env a :=
  ⟨h.size, h.defers, fun t v ht => let ⟨v', h1, h2⟩ := h.get t v ht; ⟨v', h1, h2.mono hx⟩⟩
theorem EnvRel.le {ι : Ren} {n : Nat} {ds : List Deferred} {env env' : Env} {a : Act} (h : EnvRel ι n ds env a) (hl : ∀ t v, env'.get t = some v → env.get t = some v) : EnvRel ι n ds env' a :=
  ⟨h.size, h.defers, fun t v ht => h.get t v (hl t v ht)⟩
theorem EnvRel.put {ι : Ren} {n : Nat} {ds : List Deferred} {env : Env} {a : Act} (h : EnvRel ι n ds env a) {dst : Option Tmp} (hd : ∀ d, dst = some d → d < n) {v v' : Value} (hv : VRel ι v v') :
    EnvRel ι n ds (env.put dst v) (a.put dst v') := by
  cases dst with
  | none => exact h
  | some d =>
    have hd := hd d rfl
    refine ⟨by simp [Act.put, h.size], h.defers, fun t u ht => ?_⟩
    simp only [Env.put, Env.get] at ht
    by_cases e : d = t
    · subst e
      simp at ht; subst ht
      exact ⟨v', by simp [Act.put, h.size, hd], hv⟩
    · simp only [e, if_false] at ht
      obtain ⟨u', h1, h2⟩ := h.get t u ht
      exact ⟨u', by simp [Act.put, e, h1], h2⟩
theorem EnvRel.eval {ι : Ren} {n : Nat} {ds : List Deferred} {env : Env} {a : Act} (h : EnvRel ι n ds env a) {x : Operand} {v : Value} (hx : env.eval x = some v) : VRel ι v (a.eval x) := by
  cases x with
  | tmp t =>
    obtain ⟨v', h1, h2⟩ := h.get t v hx
    simp only [Act.eval, Array.getD_eq_getD_getElem?, h1, Option.getD_some]
    exact h2
  | const u =>
    simp only [Env.eval] at hx
    split at hx
    · cases hx; exact .of_flat (by assumption)
    · cases hx
  | global g => cases hx
  | func f => cases hx; exact .func (by simp) rfl rfl (by simp) (by simp)

def OkF (r : Bool) (F : Fence) : Prop := F = Fence.wide ∨ (r = true ∧ ∃ l, F = Fence.wide.inRound l)
theorem OkF.fn {r : Bool} {F : Fence} (h : OkF r F) (f : FuncId) : F.fn f := by
  rcases h with rfl | ⟨_, l, rfl⟩
  · exact trivial
  · exact trivial
theorem OkF.room {r : Bool} {F : Fence} (h : OkF r F) (m : Nat) : F.room m := by
  rcases h with rfl | ⟨_, l, rfl⟩
  · exact room_wide m
  · exact room_wide m
theorem OkF.depth {r : Bool} {F : Fence} (h : OkF r F) : ¬ F.depth.isSome = true := by
  rcases h with rfl | ⟨_, l, rfl⟩
  · simp [Fence.wide]
  · simp [Fence.wide, Fence.inRound]
theorem OkF.calls {r : Bool} {F : Fence} (h : OkF r F) {P : Program} {f : FuncId} {args : Array Value} {w : World} {R : Ending → World → Prop} (hc : Calls P f args w R) (n : Nat) : CallsIn F n P f args w R := by
  rcases h with rfl | ⟨_, l, rfl⟩
  · exact callsIn_wide.2 hc
  · exact callsIn_wide.2 hc
theorem OkF.true {r : Bool} {F : Fence} (h : OkF r F) : OkF true F := h.imp id fun ⟨_, x⟩ => ⟨rfl, x⟩
inductive Marks (lo : Nat) (w : World) : List Deferred → Prop
  | nil : Marks lo w []
  | cons {D : Nat} {ms : List Deferred} : lo ≤ D → w.heap[D]? = some (.deferred (some [])) → (∀ d ∈ ms, d.target ≠ .collected D) → Marks lo w ms → Marks lo w ({ target := .collected D, args := #[] } :: ms)
def MarksOk (r : Bool) (lo : Nat) (w : World) (ms : List Deferred) : Prop := (r = true → ms = []) ∧ Marks lo w ms
theorem MarksOk.nil {r : Bool} {lo : Nat} {w : World} : MarksOk r lo w [] := ⟨fun _ => rfl, .nil⟩
theorem Marks.stays {ι ι' : Ren} {N N' : Nat} {σ σ' : AHeap} {w w' : World} {lo : Nat} {ms : List Deferred} (h : Marks lo w ms) (hr : Rel ι N σ w) (ht : Tr ι N σ w ι' N' σ' w') : Marks lo w' ms := by
  induction h with
  | nil => exact .nil
  | cons h1 h2 h3 _ ih =>
    refine .cons h1 ?_ h3 ih
    rw [ht.frame _ (Array.getElem?_eq_some_iff.1 h2).1 ?_]
    · exact h2
    · rintro ⟨i, b, L, g1, _, g3, g4⟩
      obtain ⟨L', g5, g6⟩ := hr.blk i b g1
      rw [g3] at g5; cases g5
      obtain ⟨o, g7, g8⟩ := g6.obj
      rw [g4, h2] at g7; cases g7
      exact g8 _ rfl
theorem Marks.blocks {lo : Nat} {w : World} {ms : List Deferred} (h : Marks lo w ms) : ∀ d ∈ ms, ∃ D, d.target = .collected D ∧ lo ≤ D ∧ D < w.heap.size := by
  induction h with
  | nil => intro d hd; cases hd
  | cons h1 h2 h3 _ ih =>
    intro d hd
    rcases List.mem_cons.1 hd with rfl | hd
    · exact ⟨_, rfl, h1, (Array.getElem?_eq_some_iff.1 h2).1⟩
    · exact ih d hd
theorem Marks.append {lo mid : Nat} {w : World} {ms ms' : List Deferred} (h' : Marks mid w ms') (h : Marks lo w ms) (hlo : lo ≤ mid) (hb : ∀ d ∈ ms, ∃ D, d.target = .collected D ∧ D < mid) : Marks lo w (ms' ++ ms) := by
  induction h' with
  | nil => exact h
  | cons h1 h2 h3 _ ih =>
    refine .cons (Nat.le_trans hlo h1) h2 (fun d hd => ?_) ih
    rcases List.mem_append.1 hd with hd | hd
    · exact h3 d hd
    · obtain ⟨D, h4, h5⟩ := hb d hd
      rw [h4]
      intro h6; cases h6; omega
theorem MarksOk.trans {r : Bool} {ι ι1 ι' : Ren} {N N1 N' : Nat} {σ σ1 σ' : AHeap} {w w1 w' : World} {ms ms' : List Deferred} (h : MarksOk r w.heap.size w1 ms) (h' : MarksOk r w1.heap.size w' ms') (t1 : Tr ι N σ w ι1 N1 σ1 w1) (r1 : Rel ι1 N1 σ1 w1) (t2 : Tr ι1 N1 σ1 w1 ι' N' σ' w') :
    MarksOk r w.heap.size w' (ms' ++ ms) := by
  refine ⟨fun hr => by rw [h.1 hr, h'.1 hr]; rfl, h'.2.append (h.2.stays r1 t2) t1.size fun d hd => ?_⟩
  obtain ⟨D, g1, _, g3⟩ := h.2.blocks d hd
  exact ⟨D, g1, g3⟩

def AOk (P : Program) (f : FuncId) (args : List Value) (N : Nat) (σ : AHeap) (Q : Value → Nat → AHeap → Prop) : Prop :=
  ∀ (ι : Ren) (w : World) (cargs : Array Value) (R : Ending → World → Prop), Rel ι N σ w → VRels ι args cargs.toList →
    (∀ ι' w' v v' N' σ', Q v N' σ' → VRel ι' v v' → Rel ι' N' σ' w' → Tr ι N σ w ι' N' σ' w' → R (.returned v') w') → Calls P f cargs w R

def AWp (r : Bool) (P : Program) (n : Nat) (c : Code) (env : Env) (N : Nat) (σ : AHeap) (K : Exit → Env → Nat → AHeap → Prop) : Prop :=
  ∀ (F : Fence), OkF r F → ∀ (ds : List Deferred) (ι : Ren) (w : World) (a : Act) (Q : Exit → Act → World → Prop), EnvRel ι n ds env a → Rel ι N σ w →
    (∀ ms e ι' w' a' env' N' σ', MarksOk r w.heap.size w' ms → K e env' N' σ' → EnvRel ι' n (ms ++ ds) env' a' → Rel ι' N' σ' w' → Tr ι N σ w ι' N' σ' w' → Q e a' w') → c.wpIn F 0 P Q a w

def ALoop (r : Bool) (P : Program) (n : Nat) (c : Code) (env : Env) (N : Nat) (σ : AHeap) (K : Exit → Env → Nat → AHeap → Prop) : Prop :=
  ∀ (F : Fence), OkF r F → ∀ (ds : List Deferred) (ι : Ren) (w : World) (a : Act) (Q : Exit → Act → World → Prop), EnvRel ι n ds env a → Rel ι N σ w →
    (∀ ms e ι' w' a' env' N' σ', MarksOk r w.heap.size w' ms → K e env' N' σ' → EnvRel ι' n (ms ++ ds) env' a' → Rel ι' N' σ' w' → Tr ι N σ w ι' N' σ' w' → Q e a' w') →
    ∀ (b : Frame) (k : List Item) (cs : List Frame), b.roundOf = F.round → ∃ e a' w', Q e a' w' ∧ ArrivesIn (Machine.fenced P F) P (lone (b.atR a (.code c :: .inLoop c :: k)) cs w) b k cs e a' w'

def StepQ (P : Program) (n : Nat) (o : Oper) (env : Env) (N : Nat) (σ : AHeap) (K : Value → Nat → AHeap → Prop) : Prop :=
  ∀ (F : Fence), OkF true F → ∀ (ds : List Deferred) (ι : Ren) (w : World) (a : Act) (next : Act → World → Prop) (Q : Exit → Act → World → Prop), EnvRel ι n ds env a → Rel ι N σ w →
    (∀ ι' w' v v' N' σ', K v N' σ' → VRel ι' v v' → Rel ι' N' σ' w' → Tr ι N σ w ι' N' σ' w' → next (a.put o.dst v') w') → o.wpIn F 0 P a w next Q
theorem wpIn_of_run {r : Bool} {F : Fence} (hF : OkF r F) {P : Program} {o : Oper} {a : Act} {w : World} {next : Act → World → Prop} {Q : Exit → Act → World → Prop} {res : Result Next} (hd : ∀ c, o.op ≠ .defer c)
    (h : (execOp a.eval o).run P w = res) (k : o.uponIn F 0 P a next Q res) : o.wpIn F 0 P a w next Q := by
  refine ⟨fun f _ => hF.fn f, ?_⟩
  rw [Oper.semAt_plain F _ _ hd, h]
  exact k

section rules
variable {r : Bool} {P : Program} {n : Nat} {env : Env} {N : Nat} {σ : AHeap}

theorem AOk.mono {f : FuncId} {args : List Value} {Q Q' : Value → Nat → AHeap → Prop} (h : AOk P f args N σ Q) (hq : ∀ v N σ, Q v N σ → Q' v N σ) : AOk P f args N σ Q' :=
  fun ι w cargs R hr ha hk => h ι w cargs R hr ha fun ι' w' v v' N' σ' q => hk ι' w' v v' N' σ' (hq _ _ _ q)
theorem AWp.mono {c : Code} {K K' : Exit → Env → Nat → AHeap → Prop} (h : AWp r P n c env N σ K) (hk : ∀ e env N σ, K e env N σ → K' e env N σ) : AWp r P n c env N σ K' :=
  fun F hF ds ι w a Q he hr hq => h F hF ds ι w a Q he hr fun ms e ι' w' a' env' N' σ' m k => hq ms e ι' w' a' env' N' σ' m (hk _ _ _ _ k)
theorem StepQ.mono {o : Oper} {K K' : Value → Nat → AHeap → Prop} (h : StepQ P n o env N σ K) (hk : ∀ v N σ, K v N σ → K' v N σ) : StepQ P n o env N σ K' :=
  fun F hF ds ι w a next Q he hr hq => h F hF ds ι w a next Q he hr fun ι' w' v v' N' σ' k => hq ι' w' v v' N' σ' (hk _ _ _ k)

theorem AWp.forget {c : Code} {env' : Env} {σ' : AHeap} {K : Exit → Env → Nat → AHeap → Prop} (h : AWp r P n c env' N σ' K)
    (he : ∀ t v, env'.get t = some v → env.get t = some v) (hs : σ'.le σ) : AWp r P n c env N σ K := by
  intro F hF ds ι w a Q hE hR hq
  refine h F hF ds ι w a Q (hE.le he) (hR.forget hs) fun ms e ι1 w1 a1 env1 N1 σ1 m k e1 r1 t1 => hq ms e ι1 w1 a1 env1 N1 σ1 m k e1 r1 ?_
  exact ⟨t1.ext, t1.old, t1.le, t1.os, t1.tape, t1.output, t1.size, fun β hb ho => t1.frame β hb fun h => ho (h.le hs), fun β ho => (t1.own β ho).imp (·.le hs) id⟩
theorem ALoop.forget {c : Code} {env' : Env} {σ' : AHeap} {K : Exit → Env → Nat → AHeap → Prop} (h : ALoop r P n c env' N σ' K)
    (he : ∀ t v, env'.get t = some v → env.get t = some v) (hs : σ'.le σ) : ALoop r P n c env N σ K := by
  intro F hF ds ι w a Q hE hR hq
  refine h F hF ds ι w a Q (hE.le he) (hR.forget hs) fun ms e ι1 w1 a1 env1 N1 σ1 m k e1 r1 t1 => hq ms e ι1 w1 a1 env1 N1 σ1 m k e1 r1 ?_
  exact ⟨t1.ext, t1.old, t1.le, t1.os, t1.tape, t1.output, t1.size, fun β hb ho => t1.frame β hb fun h => ho (h.le hs), fun β ho => (t1.own β ho).imp (·.le hs) id⟩

theorem awp_skip {K : Exit → Env → Nat → AHeap → Prop} (h : K .normal env N σ) : AWp r P n .skip env N σ K :=
  fun _ _ _ ι w a _ he hr hq => wpIn_skip (hq [] .normal ι w a env N σ .nil h he hr (Tr.refl _ _ _ _))
theorem awp_label {l : Nat} {K : Exit → Env → Nat → AHeap → Prop} (h : K .normal env N σ) : AWp r P n (.label l) env N σ K :=
  fun _ _ _ ι w a _ he hr hq => wpIn_label (hq [] .normal ι w a env N σ .nil h he hr (Tr.refl _ _ _ _))
theorem awp_exit {id : Nat} {K : Exit → Env → Nat → AHeap → Prop} (h : K (.exit id) env N σ) : AWp r P n (.exit id) env N σ K :=
  fun _ _ _ ι w a _ he hr hq => wpIn_exit (hq [] _ ι w a env N σ .nil h he hr (Tr.refl _ _ _ _))
theorem awp_ret {K : Exit → Env → Nat → AHeap → Prop} (h : K .ret env N σ) : AWp r P n .ret env N σ K :=
  fun _ _ _ ι w a _ he hr hq => wpIn_ret (hq [] _ ι w a env N σ .nil h he hr (Tr.refl _ _ _ _))

def Seq (r : Bool) (P : Program) (n : Nat) (y : Code) (K : Exit → Env → Nat → AHeap → Prop) : Exit → Env → Nat → AHeap → Prop
  | .normal, env, N, σ => AWp r P n y env N σ K
  | e, env, N, σ => K e env N σ
theorem awp_seq {x y : Code} {K : Exit → Env → Nat → AHeap → Prop} (h : AWp r P n x env N σ (Seq r P n y K)) : AWp r P n (.seq x y) env N σ K := by
  intro F hF ds ι w a Q he hr hq
  refine wpIn_seq (h F hF ds ι w a _ he hr fun ms e ι1 w1 a1 env1 N1 σ1 m k e1 r1 t1 => ?_)
  cases e with
  | normal => exact k F hF (ms ++ ds) ι1 w1 a1 Q e1 r1 fun ms2 e ι2 w2 a2 env2 N2 σ2 m2 k2 e2 r2 t2 => hq (ms2 ++ ms) e ι2 w2 a2 env2 N2 σ2 (m.trans m2 t1 r1 t2) k2 (by rw [List.append_assoc]; exact e2) r2 (t1.trans t2)
  | exit id => exact hq _ _ ι1 w1 a1 env1 N1 σ1 m k e1 r1 t1
  | goto l => exact hq _ _ ι1 w1 a1 env1 N1 σ1 m k e1 r1 t1
  | ret => exact hq _ _ ι1 w1 a1 env1 N1 σ1 m k e1 r1 t1
  | panic c => exact hq _ _ ι1 w1 a1 env1 N1 σ1 m k e1 r1 t1
  | outgrown => exact hq _ _ ι1 w1 a1 env1 N1 σ1 m k e1 r1 t1

theorem awp_cond {c : Operand} {x y : Code} {t : Bool} {K : Exit → Env → Nat → AHeap → Prop} (hc : env.eval c = some (.bool t))
    (h : AWp r P n (if t then x else y) env N σ K) : AWp r P n (.cond c x y) env N σ K := by
  intro F hF ds ι w a Q he hr hq
  have hv := (flat_iff (ι := ι) (v := .bool t) rfl).1 (he.eval hc)
  exact wpIn_cond hv (h F hF ds ι w a Q he hr hq)
theorem awp_if {c : Operand} {x y : Code} {t : Bool} {K : Exit → Env → Nat → AHeap → Prop} (hc : env.eval c = some (.bool t))
    (h1 : t = true → AWp r P n x env N σ K) (h2 : t = false → AWp r P n y env N σ K) : AWp r P n (.cond c x y) env N σ K :=
  awp_cond hc (by cases t with | true => exact h1 rfl | false => exact h2 rfl)

def InBlock (id : Nat) (K : Exit → Env → Nat → AHeap → Prop) : Exit → Env → Nat → AHeap → Prop
  | .exit id', env, N, σ => if id' = id then K .normal env N σ else K (.exit id') env N σ
  | e, env, N, σ => K e env N σ
theorem awp_block {id : Nat} {c : Code} {K : Exit → Env → Nat → AHeap → Prop} (h : AWp r P n c env N σ (InBlock id K)) : AWp r P n (.block id c) env N σ K := by
  intro F hF ds ι w a Q he hr hq
  refine wpIn_block (h F hF ds ι w a _ he hr fun ms e ι1 w1 a1 env1 N1 σ1 m k e1 r1 t1 => ?_)
  cases e with
  | exit id' =>
    simp only [Exit.inBlock]
    simp only [InBlock] at k
    split
    · rename_i hid; rw [if_pos hid] at k; exact hq _ _ ι1 w1 a1 env1 N1 σ1 m k e1 r1 t1
    · rename_i hid; rw [if_neg hid] at k; exact hq _ _ ι1 w1 a1 env1 N1 σ1 m k e1 r1 t1
  | normal => exact hq _ _ ι1 w1 a1 env1 N1 σ1 m k e1 r1 t1
  | goto l => exact hq _ _ ι1 w1 a1 env1 N1 σ1 m k e1 r1 t1
  | ret => exact hq _ _ ι1 w1 a1 env1 N1 σ1 m k e1 r1 t1
  | panic c => exact hq _ _ ι1 w1 a1 env1 N1 σ1 m k e1 r1 t1
  | outgrown => exact hq _ _ ι1 w1 a1 env1 N1 σ1 m k e1 r1 t1

def Round (r : Bool) (P : Program) (n : Nat) (c : Code) (K : Exit → Env → Nat → AHeap → Prop) : Exit → Env → Nat → AHeap → Prop
  | .normal, env, N, σ => ALoop r P n c env N σ K
  | e, env, N, σ => K e env N σ
theorem aloop_round {c : Code} {K : Exit → Env → Nat → AHeap → Prop} (h : AWp r P n c env N σ (Round r P n c K)) : ALoop r P n c env N σ K := by
  intro F hF ds ι w a Q he hr hq b k cs hro
  have h1 := h F hF ds ι w a (fun e a' w' => match e with
    | .normal => ∀ (b : Frame) (k : List Item) (cs : List Frame), b.roundOf = F.round → ∃ e a2 w2, Q e a2 w2 ∧ ArrivesIn (Machine.fenced P F) P (lone (b.atR a' (.code c :: .inLoop c :: k)) cs w') b k cs e a2 w2
    | e => Q e a' w') he hr (fun ms e ι1 w1 a1 env1 N1 σ1 m k e1 r1 t1 => by
      cases e with
      | normal => exact k F hF (ms ++ ds) ι1 w1 a1 Q e1 r1 fun ms2 e ι2 w2 a2 env2 N2 σ2 m2 k2 e2 r2 t2 => hq (ms2 ++ ms) e ι2 w2 a2 env2 N2 σ2 (m.trans m2 t1 r1 t2) k2 (by rw [List.append_assoc]; exact e2) r2 (t1.trans t2)
      | exit id => exact hq _ _ ι1 w1 a1 env1 N1 σ1 m k e1 r1 t1
      | goto l => exact hq _ _ ι1 w1 a1 env1 N1 σ1 m k e1 r1 t1
      | ret => exact hq _ _ ι1 w1 a1 env1 N1 σ1 m k e1 r1 t1
      | panic c => exact hq _ _ ι1 w1 a1 env1 N1 σ1 m k e1 r1 t1
      | outgrown => exact hq _ _ ι1 w1 a1 env1 N1 σ1 m k e1 r1 t1)
  obtain ⟨e, a₁, w₁, hq1, harr⟩ := h1 b (.inLoop c :: k) cs hro (hF.fn _) (hF.room _)
  cases e with
  | normal =>
    obtain ⟨e₂, a₂, w₂, hq₂, harr₂⟩ := hq1 b k cs hro
    exact ⟨e₂, a₂, w₂, hq₂, .of_steps (StepsIn.trans harr (.one (fenced_calm (n := 0) (hF.fn _) (hF.room _) rfl) stepR_inLoop)) harr₂⟩
  | exit id => exact ⟨_, a₁, w₁, hq1, .pass (x := .inLoop c) rfl (fun _ _ => .inl (by simp)) harr⟩
  | goto l => exact ⟨_, a₁, w₁, hq1, .pass (x := .inLoop c) rfl (fun _ _ => .inl (by simp)) harr⟩
  | ret => exact ⟨_, a₁, w₁, hq1, .pass (x := .inLoop c) rfl (fun _ _ => .inl (by simp)) harr⟩
  | panic ch => exact ⟨_, a₁, w₁, hq1, .pass (x := .inLoop c) rfl (fun _ _ => .inl (by simp)) harr⟩
  | outgrown => exact ⟨_, a₁, w₁, hq1, .pass (x := .inLoop c) rfl (fun _ _ => .inl (by simp)) harr⟩
theorem awp_loop {c : Code} {K : Exit → Env → Nat → AHeap → Prop} (h : ALoop r P n c env N σ K) : AWp r P n (.loop c) env N σ K := by
  intro F hF ds ι w a Q he hr hq b k cs hro hb hroom
  obtain ⟨e, a', w', hq', harr⟩ := h F hF ds ι w a Q he hr hq b k cs hro
  exact ⟨e, a', w', hq', .of_steps (.one (fenced_calm hb hroom rfl) stepR_loop) harr⟩

def wantedA (ops : Array Oper) (env : Env) (o : Oper) : Option Bool :=
  match o.guard with
  | none => some true
  | some (j, want) =>
    match (ops[j]?).bind (·.dst) with
    | none => none
    | some t => match env.get t with
      | some (.bool b) => some (b == want)
      | some (.tuple _) => some false
      | _ => none
theorem wantedA_eq {ops : Array Oper} {o : Oper} {r : Bool} (h : wantedA ops env o = some r) {ι : Ren} {ds : List Deferred} {a : Act} (he : EnvRel ι n ds env a) :
    Region.wanted o (yielded ops a.tmps) = r := by
  unfold wantedA at h
  unfold Region.wanted
  cases hg : o.guard with
  | none => simp [hg] at h; simp [h]
  | some g =>
    obtain ⟨j, want⟩ := g
    simp only [hg] at h ⊢
    cases ht : (ops[j]?).bind (·.dst) with
    | none => simp [ht] at h
    | some t =>
      simp only [ht] at h
      split at h
      · rename_i b hb
        obtain ⟨v', h1, h2⟩ := he.get t _ hb
        have := (flat_iff (ι := ι) (v := .bool b) rfl).1 h2
        subst this
        simp only [Option.some.injEq] at h
        subst h
        unfold yielded
        simp only [ht, Option.bind_some, h1]
        cases b <;> cases want <;> rfl
      · rename_i xs hb
        obtain ⟨v', h1, h2⟩ := he.get t _ hb
        cases h2
        simp only [Option.some.injEq] at h
        subst h
        unfold yielded
        simp only [ht, Option.bind_some, h1]
        rfl
      · cases h

def initEnv : Nat → List Value → Env
  | _, [] => []
  | k, v :: l => (k, v) :: initEnv (k + 1) l
theorem initEnv_get : ∀ (l : List Value) (k t : Nat) (v : Value), (initEnv k l).get t = some v → k ≤ t ∧ l[t - k]? = some v
  | [], _, _, _, h => by cases h
  | u :: l, k, t, v, h => by
    simp only [initEnv, Env.get] at h
    split at h
    · rename_i e; subst e; cases h; exact ⟨Nat.le_refl _, by simp⟩
    · rename_i e
      obtain ⟨h1, h2⟩ := initEnv_get l (k + 1) t v h
      refine ⟨by omega, ?_⟩
      have : t - k = (t - (k + 1)) + 1 := by omega
      rw [this]; simpa using h2

end rules
end Go.Abs

