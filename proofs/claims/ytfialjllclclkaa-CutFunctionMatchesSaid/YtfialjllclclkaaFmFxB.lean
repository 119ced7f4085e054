/- Shaken texts of the layer and of the walks. -/
import Derived.Test.YtfialjllclclkaaFmFxA
set_option linter.unusedVariables false
namespace Go.Abs
noncomputable section

inductive MR where
  | no
  | ok (v : Value) (N : Nat) (H : HeapT)
def MR.opt : MR → Option (Value × Nat × HeapT)
  | .no => none
  | .ok v N H => some (v, N, H)
def toMR (o : Option (Value × Nat × HeapT)) : MR := Option.rec (motive := fun _ => MR) .no (fun q => Prod.rec (motive := fun _ => MR) (fun v q => Prod.rec (motive := fun _ => MR) (fun N H => forceN N fun N => .ok v N H) q) q) o
theorem toMR_ok {o : Option (Value × Nat × HeapT)} {v : Value} {N : Nat} {H : HeapT} (h : toMR o = .ok v N H) : o = some (v, N, H) := by
  cases o with
  | none => cases h
  | some q =>
    obtain ⟨v1, N1, H1⟩ := q
    have h : MR.ok v1 N1 H1 = MR.ok v N H := h
    cases h; rfl

section
variable {β : Type}
theorem orec_ok {o : Option β} {K : β → MR} {v : Value} {N : Nat} {H : HeapT} (h : Option.rec (motive := fun _ => MR) .no K o = .ok v N H) : ∃ a, o = some a ∧ K a = .ok v N H := by
  cases o with
  | none => cases h
  | some a => exact ⟨a, rfl, h⟩
theorem orec_some {γ : Type} {o : Option β} {K : β → Option γ} {v : γ} (h : Option.rec (motive := fun _ => Option γ) none K o = some v) : ∃ a, o = some a ∧ K a = some v := by
  cases o with
  | none => cases h
  | some a => exact ⟨a, rfl, h⟩
theorem brec_ok {b : Bool} {K : MR} {v : Value} {N : Nat} {H : HeapT} (h : Bool.rec (motive := fun _ => MR) .no K b = .ok v N H) : b = true ∧ K = .ok v N H := by
  cases b with
  | false => cases h
  | true => exact ⟨rfl, h⟩
theorem brecF_ok {b : Bool} {K : MR} {v : Value} {N : Nat} {H : HeapT} (h : Bool.rec (motive := fun _ => MR) K .no b = .ok v N H) : b = false ∧ K = .ok v N H := by
  cases b with
  | true => cases h
  | false => exact ⟨rfl, h⟩
theorem brec_some {γ : Type} {b : Bool} {K : Option γ} {v : γ} (h : Bool.rec (motive := fun _ => Option γ) none K b = some v) : b = true ∧ K = some v := by
  cases b with
  | false => cases h
  | true => exact ⟨rfl, h⟩

def asPtr (d : β) (v : Value) (K : Nat → Nat → β) : β := Value.rec (motive_1 := fun _ => β) (motive_2 := fun _ => PUnit) (motive_3 := fun _ => PUnit) (fun _ => d) (fun _ _ => d) (fun _ _ => d) (fun _ _ _ => d) (fun _ => d) (fun a => Option.rec (motive := fun _ => β) d (fun a => Addr.rec (motive := fun _ => β) (fun i off s => Option.rec (motive := fun _ => β) (K i off) (fun _ => d) s) a) a) (fun _ _ _ => d) (fun _ => d) (fun _ => d) (fun _ _ _ _ _ => d) d (fun _ _ _ => d) d (fun _ _ => d) (fun _ _ => d) (fun _ _ => .unit) .unit (fun _ _ _ _ => .unit) v
theorem asPtr_cases (d : β) (v : Value) (K : Nat → Nat → β) : (∃ i off, v = .pointer (some ⟨i, off, none⟩) ∧ asPtr d v K = K i off) ∨ asPtr d v K = d := by
  cases v with
  | pointer a => cases a with
    | none => exact .inr rfl
    | some a =>
      obtain ⟨i, off, s⟩ := a
      cases s with
      | none => exact .inl ⟨i, off, rfl, rfl⟩
      | some s => exact .inr rfl
  | _ => exact .inr rfl
theorem asPtr_ok {u : Value} {K : Nat → Nat → MR} {v : Value} {N : Nat} {H : HeapT} (h : asPtr .no u K = .ok v N H) : ∃ i off, u = .pointer (some ⟨i, off, none⟩) ∧ K i off = .ok v N H := by
  rcases asPtr_cases .no u K with ⟨i, off, e, h1⟩ | h1
  · exact ⟨i, off, e, by rw [← h1]; exact h⟩
  · rw [h1] at h; cases h
theorem asPtr_some {γ : Type} {u : Value} {K : Nat → Nat → Option γ} {v : γ} (h : asPtr none u K = some v) : ∃ i off, u = .pointer (some ⟨i, off, none⟩) ∧ K i off = some v := by
  rcases asPtr_cases none u K with ⟨i, off, e, h1⟩ | h1
  · exact ⟨i, off, e, by rw [← h1]; exact h⟩
  · rw [h1] at h; cases h
def asSl (d : β) (v : Value) (K0 : Nat → Nat → β) (K : Nat → Nat → Nat → Nat → β) : β := Value.rec (motive_1 := fun _ => β) (motive_2 := fun _ => PUnit) (motive_3 := fun _ => PUnit) (fun _ => d) (fun _ _ => d) (fun _ _ => d) (fun _ _ _ => d) (fun _ => d) (fun _ => d) (fun a len cap => Option.rec (motive := fun _ => β) (K0 len cap) (fun a => Addr.rec (motive := fun _ => β) (fun i off s => Option.rec (motive := fun _ => β) (K i off len cap) (fun _ => d) s) a) a) (fun _ => d) (fun _ => d) (fun _ _ _ _ _ => d) d (fun _ _ _ => d) d (fun _ _ => d) (fun _ _ => d) (fun _ _ => .unit) .unit (fun _ _ _ _ => .unit) v
theorem asSl_cases (d : β) (v : Value) (K0 : Nat → Nat → β) (K : Nat → Nat → Nat → Nat → β) : (∃ i off len cap, v = .slice (some ⟨i, off, none⟩) len cap ∧ asSl d v K0 K = K i off len cap) ∨ (∃ len cap, v = .slice none len cap ∧ asSl d v K0 K = K0 len cap) ∨ asSl d v K0 K = d := by
  cases v with
  | slice a len cap => cases a with
    | none => exact .inr (.inl ⟨len, cap, rfl, rfl⟩)
    | some a =>
      obtain ⟨i, off, s⟩ := a
      cases s with
      | none => exact .inl ⟨i, off, len, cap, rfl, rfl⟩
      | some s => exact .inr (.inr rfl)
  | _ => exact .inr (.inr rfl)
def asLen (v : Value) (K : Nat → Option Value) : Option Value := Value.rec (motive_1 := fun _ => Option Value) (motive_2 := fun _ => PUnit) (motive_3 := fun _ => PUnit) (fun _ => none) (fun _ _ => none) (fun _ _ => none) (fun _ _ _ => none) (fun _ => none) (fun _ => none) (fun _ len _ => K len) (fun _ => none) (fun _ => none) (fun _ _ _ _ _ => none) none (fun _ _ _ => none) none (fun _ _ => none) (fun _ _ => none) (fun _ _ => .unit) .unit (fun _ _ _ _ => .unit) v
theorem asLen_some {u r : Value} {K : Nat → Option Value} (h : asLen u K = some r) : ∃ a len cap, u = .slice a len cap ∧ K len = some r := by
  cases u <;> first | exact ⟨_, _, _, rfl, h⟩ | cases h
def asAgg (v : Value) (K : List Value → Option Value) : Option Value := Value.rec (motive_1 := fun _ => Option Value) (motive_2 := fun _ => PUnit) (motive_3 := fun _ => PUnit) (fun _ => none) (fun _ _ => none) (fun _ _ => none) (fun _ _ _ => none) (fun _ => none) (fun _ => none) (fun _ _ _ => none) (fun _ => none) (fun _ => none) (fun _ _ _ _ _ => none) none (fun _ _ _ => none) none (fun cs _ => K cs.toList) (fun _ _ => none) (fun _ _ => .unit) .unit (fun _ _ _ _ => .unit) v
theorem asAgg_some {u r : Value} {K : List Value → Option Value} (h : asAgg u K = some r) : ∃ cs, u = .agg cs ∧ K cs.toList = some r := by
  cases u <;> first | exact ⟨_, rfl, h⟩ | cases h
def asTup (v : Value) (K : List Value → Option Value) : Option Value := Value.rec (motive_1 := fun _ => Option Value) (motive_2 := fun _ => PUnit) (motive_3 := fun _ => PUnit) (fun _ => none) (fun _ _ => none) (fun _ _ => none) (fun _ _ _ => none) (fun _ => none) (fun _ => none) (fun _ _ _ => none) (fun _ => none) (fun _ => none) (fun _ _ _ _ _ => none) none (fun _ _ _ => none) none (fun _ _ => none) (fun cs _ => K cs.toList) (fun _ _ => .unit) .unit (fun _ _ _ _ => .unit) v
theorem asTup_some {u r : Value} {K : List Value → Option Value} (h : asTup u K = some r) : ∃ cs, u = .tuple cs ∧ K cs.toList = some r := by
  cases u <;> first | exact ⟨_, rfl, h⟩ | cases h
def asNat (d : β) (v : Value) (K : Nat → β) : β := Value.rec (motive_1 := fun _ => β) (motive_2 := fun _ => PUnit) (motive_3 := fun _ => PUnit) (fun _ => d) (fun _ a => Int.rec (motive := fun _ => β) (fun m => K m) (fun _ => d) a) (fun _ _ => d) (fun _ _ _ => d) (fun _ => d) (fun _ => d) (fun _ _ _ => d) (fun _ => d) (fun _ => d) (fun _ _ _ _ _ => d) d (fun _ _ _ => d) d (fun _ _ => d) (fun _ _ => d) (fun _ _ => .unit) .unit (fun _ _ _ _ => .unit) v
theorem asNat_cases (d : β) (v : Value) (K : Nat → β) : (∃ k m, v = .int k (.ofNat m) ∧ asNat d v K = K m) ∨ asNat d v K = d := by
  cases v with
  | int k a => cases a with
    | ofNat m => exact .inl ⟨k, m, rfl, rfl⟩
    | negSucc m => exact .inr rfl
  | _ => exact .inr rfl
theorem asNat_ok {u : Value} {K : Nat → MR} {v : Value} {N : Nat} {H : HeapT} (h : asNat .no u K = .ok v N H) : ∃ k m, u = .int k (.ofNat m) ∧ K m = .ok v N H := by
  rcases asNat_cases .no u K with ⟨k, m, e, h1⟩ | h1
  · exact ⟨k, m, e, by rw [← h1]; exact h⟩
  · rw [h1] at h; cases h
theorem asNat_some {γ : Type} {u : Value} {K : Nat → Option γ} {v : γ} (h : asNat none u K = some v) : ∃ k m, u = .int k (.ofNat m) ∧ K m = some v := by
  rcases asNat_cases none u K with ⟨k, m, e, h1⟩ | h1
  · exact ⟨k, m, e, by rw [← h1]; exact h⟩
  · rw [h1] at h; cases h
def spreadF (v : Value) : List Value := Value.rec (motive_1 := fun _ => List Value) (motive_2 := fun _ => PUnit) (motive_3 := fun _ => PUnit) (fun _ => [v]) (fun _ _ => [v]) (fun _ _ => [v]) (fun _ _ _ => [v]) (fun _ => [v]) (fun _ => [v]) (fun _ _ _ => [v]) (fun _ => [v]) (fun _ => [v]) (fun _ _ _ _ _ => [v]) [v] (fun _ _ _ => [v]) [v] (fun cs _ => cs.toList) (fun _ _ => [v]) (fun _ _ => .unit) .unit (fun _ _ _ _ => .unit) v
theorem spreadF_eq (v : Value) : spreadF v = spread v := by cases v <;> rfl
def oneF (v : Value) : Bool := Value.rec (motive_1 := fun _ => Bool) (motive_2 := fun _ => PUnit) (motive_3 := fun _ => PUnit) (fun _ => true) (fun _ _ => true) (fun _ _ => true) (fun _ _ _ => true) (fun _ => true) (fun _ => true) (fun _ _ _ => true) (fun _ => true) (fun _ => true) (fun _ _ _ _ _ => true) true (fun _ _ _ => true) true (fun _ _ => false) (fun _ _ => false) (fun _ _ => .unit) .unit (fun _ _ _ _ => .unit) v
theorem oneF_eq (v : Value) : oneF v = v.oneCell' := by cases v <;> rfl
def bddF (N : Nat) (v : Value) : Bool := Value.rec (motive_1 := fun _ => Bool) (motive_2 := fun _ => PUnit) (motive_3 := fun _ => PUnit) (fun _ => true) (fun _ _ => true) (fun _ _ => bddB N v) (fun _ _ _ => bddB N v) (fun _ => bddB N v) (fun _ => bddB N v) (fun _ _ _ => bddB N v) (fun _ => bddB N v) (fun _ => bddB N v) (fun _ _ _ _ _ => bddB N v) (bddB N v) (fun _ _ _ => bddB N v) (bddB N v) (fun _ _ => bddB N v) (fun _ _ => bddB N v) (fun _ _ => .unit) .unit (fun _ _ _ _ => .unit) v
theorem bddF_eq (N : Nat) (v : Value) : bddF N v = bddB N v := by cases v <;> rfl

def nthF (k : Nat) (l : List Value) : Option Value :=
  Nat.rec (motive := fun _ => List Value → Option Value) (fun l => List.rec (motive := fun _ => Option Value) none (fun a _ _ => some a) l) (fun _ ih l => List.rec (motive := fun _ => Option Value) none (fun _ t _ => ih t) l) k l
theorem nthF_eq : ∀ (k : Nat) (l : List Value), nthF k l = l[k]?
  | 0, [] => rfl
  | 0, _ :: _ => rfl
  | k + 1, [] => rfl
  | k + 1, _ :: t => nthF_eq k t
def dropF (k : Nat) (l : List Value) : List Value :=
  Nat.rec (motive := fun _ => List Value → List Value) (fun l => l) (fun _ ih l => List.rec (motive := fun _ => List Value) [] (fun _ t _ => ih t) l) k l
theorem dropF_eq : ∀ (k : Nat) (l : List Value), dropF k l = l.drop k
  | 0, _ => rfl
  | k + 1, [] => rfl
  | k + 1, _ :: t => dropF_eq k t
def takeK (d : β) (m : Nat) (l : List Value) (K : List Value → β) : β :=
  Nat.rec (motive := fun _ => List Value → (List Value → β) → β) (fun _ K => K []) (fun _ ih l K => List.rec (motive := fun _ => β) d (fun a t _ => ih t fun r => K (a :: r)) l) m l K
theorem takeK_eq (d : β) : ∀ (m : Nat) (l : List Value) (K : List Value → β), takeK d m l K = if m ≤ l.length then K (l.take m) else d
  | 0, l, K => by show K [] = _; simp
  | m + 1, [], K => by simp [takeK]
  | m + 1, a :: t, K => by
    show takeK d m t _ = _
    rw [takeK_eq d m t]
    simp
def appK (d : β) (m : Nat) (l : List Value) (news : List Value) (K : List Value → β) : β :=
  Nat.rec (motive := fun _ => List Value → (List Value → β) → β) (fun _ K => K news) (fun _ ih l K => List.rec (motive := fun _ => β) d (fun a t _ => ih t fun r => K (a :: r)) l) m l K
theorem appK_eq (d : β) (news : List Value) : ∀ (m : Nat) (l : List Value) (K : List Value → β), appK d m l news K = if m ≤ l.length then K (l.take m ++ news) else d
  | 0, l, K => by show K news = _; simp
  | m + 1, [], K => by simp [appK]
  | m + 1, a :: t, K => by
    show appK d m t news _ = _
    rw [appK_eq d news m t]
    simp
def overK (d : β) (vs l : List Value) (K : List Value → β) : β :=
  List.rec (motive := fun _ => List Value → (List Value → β) → β) (fun l K => K l) (fun v _ ih l K => List.rec (motive := fun _ => β) d (fun _ t _ => ih t fun r => K (v :: r)) l) vs l K
theorem overK_eq (d : β) : ∀ (vs l : List Value) (K : List Value → β), overK d vs l K = if vs.length ≤ l.length then K (vs ++ l.drop vs.length) else d
  | [], l, K => by simp [overK]
  | v :: vs, [], K => by simp [overK]
  | v :: vs, a :: t, K => by
    show overK d vs t _ = _
    rw [overK_eq d vs t]
    simp
def putsK (d : β) (off : Nat) (vs l : List Value) (K : List Value → β) : β :=
  Nat.rec (motive := fun _ => List Value → (List Value → β) → β) (fun l K => overK d vs l K) (fun _ ih l K => List.rec (motive := fun _ => β) d (fun a t _ => ih t fun r => K (a :: r)) l) off l K
theorem putsK_eq (d : β) (vs : List Value) : ∀ (off : Nat) (l : List Value) (K : List Value → β), putsK d off vs l K = if off ≤ l.length ∧ off + vs.length ≤ l.length then K (splice l off vs) else d
  | 0, l, K => by
    show overK d vs l K = _
    rw [overK_eq]; simp [splice]
  | off + 1, [], K => by simp [putsK]
  | off + 1, a :: t, K => by
    show putsK d off vs t _ = _
    rw [putsK_eq d vs off t]
    have e : (off + 1 ≤ (a :: t).length ∧ off + 1 + vs.length ≤ (a :: t).length) ↔ (off ≤ t.length ∧ off + vs.length ≤ t.length) := by simp only [List.length_cons]; omega
    have e2 : splice (a :: t) (off + 1) vs = a :: splice t off vs := by
      simp only [splice, List.take_succ_cons, List.cons_append, show off + 1 + vs.length = (off + vs.length) + 1 from by omega, List.drop_succ_cons]
    by_cases hc : off ≤ t.length ∧ off + vs.length ≤ t.length
    · rw [if_pos hc, if_pos (e.2 hc), e2]
    · rw [if_neg hc, if_neg fun h => hc (e.1 h)]
theorem putsK_ok {off : Nat} {vs l : List Value} {K : List Value → MR} {v : Value} {N : Nat} {H : HeapT} (h : putsK .no off vs l K = .ok v N H) : off + vs.length ≤ l.length ∧ K (splice l off vs) = .ok v N H := by
  rw [putsK_eq] at h
  split at h
  · rename_i hc; exact ⟨hc.2, h⟩
  · cases h
theorem takeK_ok {m : Nat} {l : List Value} {K : List Value → MR} {v : Value} {N : Nat} {H : HeapT} (h : takeK .no m l K = .ok v N H) : m ≤ l.length ∧ K (l.take m) = .ok v N H := by
  rw [takeK_eq] at h
  split at h
  · rename_i hc; exact ⟨hc, h⟩
  · cases h
theorem takeK_some {γ : Type} {m : Nat} {l : List Value} {K : List Value → Option γ} {v : γ} (h : takeK none m l K = some v) : m ≤ l.length ∧ K (l.take m) = some v := by
  rw [takeK_eq] at h
  split at h
  · rename_i hc; exact ⟨hc, h⟩
  · cases h
theorem appK_ok {m : Nat} {l news : List Value} {K : List Value → MR} {v : Value} {N : Nat} {H : HeapT} (h : appK .no m l news K = .ok v N H) : m ≤ l.length ∧ K (l.take m ++ news) = .ok v N H := by
  rw [appK_eq] at h
  split at h
  · rename_i hc; exact ⟨hc, h⟩
  · cases h
def lenIs (vs : List Value) (s : Nat) : Bool :=
  List.rec (motive := fun _ => Nat → Bool) (fun s => Nat.beq s 0) (fun _ _ ih s => Nat.rec (motive := fun _ => Bool) false (fun s _ => ih s) s) vs s
theorem lenIs_eq : ∀ {vs : List Value} {s : Nat}, lenIs vs s = true → vs.length = s
  | [], s, h => (Nat.eq_of_beq_eq_true h).symm
  | _ :: vs, 0, h => by cases h
  | _ :: vs, s + 1, h => congrArg (· + 1) (lenIs_eq (vs := vs) (s := s) h)
def allOne (vs : List Value) : Bool := List.rec (motive := fun _ => Bool) true (fun a _ ih => Bool.rec (motive := fun _ => Bool) false ih (oneF a)) vs
theorem allOne_eq : ∀ {vs : List Value}, allOne vs = true → vs.all (·.oneCell') = true
  | [], _ => rfl
  | a :: vs, h => by
    have h : Bool.rec (motive := fun _ => Bool) false (allOne vs) (oneF a) = true := h
    rw [oneF_eq] at h
    cases ha : a.oneCell' with
    | false => rw [ha] at h; cases h
    | true => rw [ha] at h; simp only [List.all_cons, ha, Bool.true_and]; exact allOne_eq (vs := vs) h
end

def rowAt (c : Ctx) (H : HeapT) (i : Nat) (K : List Value → Nat → MR) : MR :=
  Bool.rec (motive := fun _ => MR) (Option.rec (motive := fun _ => MR) .no (fun b => Prod.rec (motive := fun _ => MR) (fun l z => ESz.rec (motive := fun _ => MR) (fun k => K l k) (fun _ _ => .no) (fun _ => .no) z) b) ((pth i).get H)) .no (c.hid i)
def ownAt (c : Ctx) (H : HeapT) (i : Nat) (K : List Value → Nat → MR) : MR := Bool.rec (motive := fun _ => MR) (rowAt c H i K) .no (c.ro i)
theorem rowAt_ok {c : Ctx} {H : HeapT} {i : Nat} {K : List Value → Nat → MR} {v : Value} {N' : Nat} {H' : HeapT} (h : rowAt c H i K = .ok v N' H') : ∃ l k, H.get i = some (l, .n k) ∧ view c H i = some ⟨l, !c.ro i, .n k⟩ ∧ K l k = .ok v N' H' := by
  obtain ⟨h1, h⟩ := brecF_ok h
  obtain ⟨⟨l, z⟩, h2, h⟩ := orec_ok h
  cases z with
  | n k => exact ⟨l, k, h2, view_row h1 h2, h⟩
  | loop _ _ => cases h
  | map _ => cases h
theorem ownAt_ok {c : Ctx} {H : HeapT} {i : Nat} {K : List Value → Nat → MR} {v : Value} {N' : Nat} {H' : HeapT} (h : ownAt c H i K = .ok v N' H') : ∃ l k, H.get i = some (l, .n k) ∧ view c H i = some ⟨l, true, .n k⟩ ∧ K l k = .ok v N' H' := by
  obtain ⟨h1, h⟩ := brecF_ok h
  obtain ⟨l, k, h2, h3, h⟩ := rowAt_ok h
  rw [h1] at h3
  exact ⟨l, k, h2, h3, h⟩

def rdB : Operand → Box (Trie Value → Option Value)
  | .tmp t => ⟨fun E => (pth t).get E⟩
  | .const v => bif flat v then ⟨fun _ => some v⟩ else ⟨fun _ => none⟩
  | .global _ => ⟨fun _ => none⟩
  | .func f => ⟨fun _ => some (.func (.func f) #[] #[])⟩
theorem rdB_eq (x : Operand) (E : Trie Value) : (rdB x).un E = opdT E x := by
  cases x with
  | const v =>
    simp only [rdB, opdT]
    cases flat v <;> rfl
  | _ => rfl
def rdL : List Operand → Box (Trie Value → (List Value → MR) → MR)
  | [] => ⟨fun _ K => K []⟩
  | x :: l => ⟨fun E K => Option.rec (motive := fun _ => MR) .no (fun v => (rdL l).un E fun vs => K (v :: vs)) ((rdB x).un E)⟩
theorem rdL_ok {E : Trie Value} {v : Value} {N : Nat} {H : HeapT} : ∀ {l : List Operand} {K : List Value → MR}, (rdL l).un E K = .ok v N H → ∃ vs, l.mapM (opdT E) = some vs ∧ K vs = .ok v N H
  | [], K, h => ⟨[], rfl, h⟩
  | x :: l, K, h => by
    obtain ⟨a, ha, h⟩ := orec_ok h
    rw [rdB_eq] at ha
    obtain ⟨vs, h1, h2⟩ := rdL_ok (l := l) h
    exact ⟨a :: vs, by simp [List.mapM_cons, ha, h1], h2⟩
def boundB : Option Operand → Box (Trie Value → Nat → (Nat → MR) → MR)
  | none => ⟨fun _ d K => K d⟩
  | some x => ⟨fun E _ K => Option.rec (motive := fun _ => MR) .no (fun u => asNat .no u K) ((rdB x).un E)⟩
theorem boundB_ok {E : Trie Value} {d : Nat} {K : Nat → MR} {v : Value} {N : Nat} {H : HeapT} {x : Option Operand} (h : (boundB x).un E d K = .ok v N H) : ∃ m, boundR (opdT E) d x = some m ∧ K m = .ok v N H := by
  cases x with
  | none => exact ⟨d, rfl, h⟩
  | some x =>
    obtain ⟨u, hu, h⟩ := orec_ok h
    obtain ⟨k, m, rfl, h⟩ := asNat_ok h
    rw [rdB_eq] at hu
    refine ⟨m, ?_, h⟩
    simp only [boundR, hu]
    simp
theorem bdd_opdT {n N : Nat} {E : Trie Value} (hE : EB n E N) {x : Operand} {v : Value} (h : opdT E x = some v) : Bdd N v := by
  cases x with
  | tmp t => exact (hE t _ h).2
  | const u =>
    simp only [opdT] at h
    split at h
    · cases h; exact .of_flat (by assumption)
    · cases h
  | global g => cases h
  | func f => cases h; exact .func (by simp) (by simp) (by simp)
theorem bdd_opdTs {n N : Nat} {E : Trie Value} (hE : EB n E N) : ∀ {l : List Operand} {vs : List Value}, l.mapM (opdT E) = some vs → ∀ x ∈ vs, Bdd N x
  | [], vs, h => by simp at h; subst h; simp
  | y :: l, vs, h => by
    simp only [List.mapM_cons] at h
    cases hy : opdT E y with
    | none => simp [hy] at h
    | some u =>
      cases hl : l.mapM (opdT E) with
      | none => simp [hy, hl] at h
      | some us =>
        simp [hy, hl] at h; subst h
        intro x hx
        rcases List.mem_cons.1 hx with rfl | hx
        · exact bdd_opdT hE hy
        · exact bdd_opdTs hE hl x hx
theorem bdd_agg {N : Nat} {cs : Array Value} (h : Bdd N (.agg cs)) : ∀ x ∈ cs.toList, Bdd N x := by
  intro x hx
  obtain ⟨i, hi⟩ := List.getElem?_of_mem hx
  rw [Array.getElem?_toList] at hi
  cases h with
  | flat h => simp [flat0] at h
  | agg h => exact h i x hi
theorem bdd_tup {N : Nat} {cs : Array Value} (h : Bdd N (.tuple cs)) : ∀ x ∈ cs.toList, Bdd N x := by
  intro x hx
  obtain ⟨i, hi⟩ := List.getElem?_of_mem hx
  rw [Array.getElem?_toList] at hi
  cases h with
  | flat h => simp [flat0] at h
  | tuple h => exact h i x hi
theorem bdd_of_list {N : Nat} {l : List Value} (h : ∀ x ∈ l, Bdd N x) : Bdd N (.agg ⟨l⟩) := .agg fun i v hv => h v (List.mem_of_getElem? (by simpa using hv))
theorem bdd_ptr {N i off : Nat} (h : Bdd N (.pointer (some ⟨i, off, none⟩))) : i < N := by
  cases h with
  | flat h => simp [flat0] at h
  | ptr h => exact h
theorem bdd_sl {N i off len cap : Nat} (h : Bdd N (.slice (some ⟨i, off, none⟩) len cap)) : i < N := by
  cases h with
  | flat h => simp [flat0] at h
  | slice h => exact h
end
end Go.Abs

