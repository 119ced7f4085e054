/- Shaken texts of the layer and of the walks. -/
import Derived.Test.YtfialjllclclkaaFmAny
namespace Go.Abs

def masksUpTo (ops : Array Oper) : Nat → List Nat
  | 0 => []
  | k + 1 => let ms := masksUpTo ops k; ms ++ [(deps ops k).foldl (fun m d => m ||| 2 ^ d ||| ms.getD d 0) 0]
theorem masksUpTo_length (ops : Array Oper) : ∀ k, (masksUpTo ops k).length = k
  | 0 => rfl
  | k + 1 => by simp [masksUpTo, masksUpTo_length ops k]
theorem masksUpTo_get (ops : Array Oper) : ∀ (k i : Nat), i < k → (masksUpTo ops k).getD i 0 = (masksUpTo ops (i + 1)).getD i 0
  | 0, i, h => by omega
  | k + 1, i, h => by
    by_cases e : i = k
    · subst e; rfl
    · rw [masksUpTo, List.getD_eq_getElem?_getD, List.getElem?_append_left (by rw [masksUpTo_length]; omega), ← List.getD_eq_getElem?_getD]
      exact masksUpTo_get ops k i (by omega)
def maskOf (ops : Array Oper) (i : Nat) : Nat := (masksUpTo ops (i + 1)).getD i 0
def waitsB (ops : Array Oper) (i j : Nat) : Bool := (maskOf ops i).testBit j
theorem foldl_or_bit (f : Nat → Nat) (j : Nat) : ∀ (l : List Nat) (m : Nat), (l.foldl (fun m d => m ||| 2 ^ d ||| f d) m).testBit j = (m.testBit j || l.any fun d => decide (d = j) || (f d).testBit j)
  | [], m => by simp
  | d :: l, m => by
    rw [List.foldl_cons, foldl_or_bit f j l, List.any_cons, Nat.testBit_or, Nat.testBit_or, Nat.testBit_two_pow]
    simp [Bool.or_assoc]
theorem waitsB_iff (ops : Array Oper) (i j : Nat) (hback : ∀ d ∈ deps ops i, d < i) : waitsB ops i j = true ↔ ∃ d ∈ deps ops i, d = j ∨ waitsB ops d j = true := by
  unfold waitsB maskOf
  rw [masksUpTo, List.getD_eq_getElem?_getD, List.getElem?_append_right (by rw [masksUpTo_length]; omega), masksUpTo_length, Nat.sub_self]
  simp only [List.getElem?_cons_zero, Option.getD_some]
  rw [foldl_or_bit (fun d => (masksUpTo ops i).getD d 0)]
  simp only [Nat.zero_testBit, Bool.false_or, List.any_eq_true, Bool.or_eq_true, decide_eq_true_eq]
  constructor
  · rintro ⟨d, hd, h⟩
    refine ⟨d, hd, h.imp id fun h => ?_⟩
    rwa [masksUpTo_get ops i d (hback d hd)] at h
  · rintro ⟨d, hd, h⟩
    refine ⟨d, hd, h.imp id fun h => ?_⟩
    rwa [masksUpTo_get ops i d (hback d hd)]
theorem waits_done {ops : Array Oper} {S : Nat → Bool} (hback : ∀ i, ∀ d ∈ deps ops i, d < i) (hc : ∀ j k, k ∈ deps ops j → S j = true → S k = true) :
    ∀ (i : Nat), (∀ d ∈ deps ops i, S d = true) → ∀ j, waitsB ops i j = true → S j = true := by
  intro i
  induction i using Nat.strongRecOn with
  | _ i ih =>
    intro hd j hj
    obtain ⟨d, h1, h2⟩ := (waitsB_iff ops i j (hback i)).1 hj
    rcases h2 with rfl | h2
    · exact hd _ h1
    · exact ih d (hback i d h1) (fun k hk => hc d k hk (hd d h1)) j h2
theorem deps_far {ops : Array Oper} {i : Nat} (h : ops.size ≤ i) : deps ops i = [] := by
  unfold deps; rw [Array.getElem?_eq_none h]
theorem back_all {ops : Array Oper} (h : ∀ i, i < ops.size → ∀ d ∈ deps ops i, d < i) : ∀ i, ∀ d ∈ deps ops i, d < i := fun i d hd => by
  rcases Nat.lt_or_ge i ops.size with h1 | h1
  · exact h i h1 d hd
  · rw [deps_far h1] at hd; cases hd

open Classical in
noncomputable def viewOf (T W : Nat → Prop) (σ : AHeap) : AHeap := fun j => if T j then (σ j).bind fun b => if b.row ∨ W j then some ⟨b.cells, b.own && decide (W j), b.esz⟩ else none else none
theorem viewOf_some {T W : Nat → Prop} {σ : AHeap} {j : Nat} {b : Blk} (h : viewOf T W σ j = some b) : T j ∧ ∃ b0, σ j = some b0 ∧ b.cells = b0.cells ∧ b.esz = b0.esz ∧ (b.own = true → b0.own = true ∧ W j) ∧ (b.row ∨ (W j ∧ b.own = b0.own)) := by
  unfold viewOf at h
  split at h
  · rename_i hT
    rw [Option.bind_eq_some_iff] at h
    obtain ⟨b0, h0, h⟩ := h
    split at h
    · rename_i hr
      cases h
      refine ⟨hT, b0, h0, rfl, rfl, fun ho => ?_, hr.imp id fun hw => ⟨hw, by simp [hw]⟩⟩
      simp only [Bool.and_eq_true, decide_eq_true_eq] at ho
      exact ho
    · cases h
  · cases h
theorem viewOf_get {T W : Nat → Prop} {σ : AHeap} {j : Nat} {b : Blk} (hT : T j) (h : σ j = some b) (hr : b.row ∨ W j) : ∃ b', viewOf T W σ j = some b' ∧ b'.cells = b.cells ∧ b'.esz = b.esz ∧ (W j → b'.own = b.own) := by
  classical
  refine ⟨⟨b.cells, b.own && decide (W j), b.esz⟩, by unfold viewOf; rw [if_pos hT, h, Option.bind_some, if_pos hr], rfl, rfl, fun hw => by simp [hw]⟩

section
variable {r : Bool} {P : Program} {n : Nat} {env : Env} {N : Nat} {σ : AHeap}

def Slot (ops : Array Oper) (vals : List Value) (env : Env) (i t : Nat) (v : Value) : Prop :=
  (∃ d, waitsB ops i d = true ∧ d < ops.size ∧ dstOf ops d = some t ∧ vals.getD d undef = v) ∨ (env.get t = some v ∧ ∀ d, d < ops.size → dstOf ops d = some t → d = i ∨ waitsB ops d i = true)
def WrP (Nf : Nat → Nat) (W : Nat → Nat → Prop) (k j : Nat) : Prop := W k j ∨ (Nf k ≤ j ∧ j < Nf (k + 1))
def TextStep (P : Program) (n : Nat) (ops : Array Oper) (vals : List Value) (Nf : Nat → Nat) (σf : Nat → AHeap) (T W : Nat → Nat → Prop) (e : Env) (i : Nat) (o : Oper) : Prop :=
  (wantedA ops e o = some true ∧ Nf (i + 1) = Nf i ∧ (∀ j, ¬ W i j) ∧ σf (i + 1) = σf i ∧ ∀ M, StepQ P n o e M (viewOf (T i) (fun _ => False) (σf i)) (fun v N1 _ => v = vals.getD i undef ∧ N1 = M)) ∨
  (wantedA ops e o = some false ∧ vals.getD i undef = undef ∧ Nf (i + 1) = Nf i ∧ (∀ j, ¬ W i j) ∧ σf (i + 1) = σf i) ∨
  (wantedA ops e o = some true ∧ (∀ t v, e.get t = some v → Bdd (Nf i) v) ∧ (∀ j b, T i j → σf i j = some b → BlkBdd (Nf i) b) ∧ (∀ j, ¬ WrP Nf W i j → σf (i + 1) j = σf i j) ∧
    (∀ j b, W i j → σf (i + 1) j = some b → ∃ b0, σf i j = some b0) ∧
    StepQ P n o e (Nf i) (viewOf (T i) (W i) (σf i)) (fun v N1 σ1 => v = vals.getD i undef ∧ N1 = Nf (i + 1) ∧ ∀ j b, σf (i + 1) j = some b → WrP Nf W i j → σ1 j = some b ∧ b.own = true))

open Classical in
noncomputable def stGo (Nf : Nat → Nat) (σf : Nat → AHeap) (W : Nat → Nat → Prop) (S : Nat → Bool) (j : Nat) : Nat → Option Blk
  | 0 => σf 0 j
  | k + 1 => if S k = true ∧ WrP Nf W k j then σf (k + 1) j else stGo Nf σf W S j k

theorem stGo_at {Nf : Nat → Nat} {σf : Nat → AHeap} {W : Nat → Nat → Prop} {S : Nat → Bool} {j i m : Nat} (hfr : ∀ k, k < m → ¬ WrP Nf W k j → σf (k + 1) j = σf k j)
    (h : ∀ k, k < m → WrP Nf W k j → (S k = true ↔ k < i)) : ∀ m', m' ≤ m → stGo Nf σf W S j m' = σf (min m' i) j := by
  intro m'
  induction m' with
  | zero => intro _; simp [stGo]
  | succ k ih =>
    intro hk
    have ih := ih (by omega)
    unfold stGo
    by_cases hw : WrP Nf W k j
    · have hs := h k (by omega) hw
      by_cases hki : k < i
      · rw [if_pos ⟨hs.2 hki, hw⟩, Nat.min_eq_left (by omega)]
      · rw [if_neg (fun hh => hki (hs.1 hh.1)), ih, show min k i = min (k + 1) i from by omega]
    · rw [if_neg (fun hh => hw hh.2), ih]
      by_cases hki : k < i
      · rw [Nat.min_eq_left (by omega), Nat.min_eq_left (by omega), hfr k (by omega) hw]
      · rw [show min k i = min (k + 1) i from by omega]

def putAll (ops : Array Oper) (vals : List Value) (env : Env) : Nat → Env
  | 0 => env
  | k + 1 => (putAll ops vals env k).put (dstOf ops k) (vals.getD k undef)

theorem putAll_knows {ops : Array Oper} (vals : List Value) (env : Env) : ∀ (k : Nat), k ≤ ops.size → ∀ t v, (putAll ops vals env k).get t = some v →
    (∃ d, d < k ∧ dstOf ops d = some t ∧ vals.getD d undef = v) ∨ (env.get t = some v ∧ ∀ d, d < k → dstOf ops d ≠ some t) := by
  intro k
  induction k with
  | zero => intro _ t v h; exact .inr ⟨h, fun d hd => by omega⟩
  | succ k ih =>
    intro hk t v h
    simp only [putAll] at h
    cases hd : dstOf ops k with
    | none =>
      rw [hd] at h
      rcases ih (by omega) t v h with ⟨d, h1, h2, h3⟩ | ⟨h1, h2⟩
      · exact .inl ⟨d, by omega, h2, h3⟩
      · refine .inr ⟨h1, fun d hd2 => ?_⟩
        by_cases e : d = k
        · subst e; rw [hd]; simp
        · exact h2 d (by omega)
    | some u =>
      rw [hd] at h
      simp only [Env.put, Env.get] at h
      split at h
      · rename_i e; subst e; cases h; exact .inl ⟨k, by omega, hd, rfl⟩
      · rename_i e
        rcases ih (by omega) t v h with ⟨d, h1, h2, h3⟩ | ⟨h1, h2⟩
        · exact .inl ⟨d, by omega, h2, h3⟩
        · refine .inr ⟨h1, fun d hd2 => ?_⟩
          by_cases e2 : d = k
          · subst e2; rw [hd]; intro h3; cases h3; exact e rfl
          · exact h2 d (by omega)

theorem awp_text {id : Nat} {l : List Oper} {K : Exit → Env → Nat → AHeap → Prop} (vals : List Value) (Nf : Nat → Nat) (σf : Nat → AHeap) (T W : Nat → Nat → Prop) (e : Nat → Env)
    (hm : P.follows .mixedOrders = true) (honce : onceB l.toArray = true) (hback : (List.range l.length).all (fun i => (deps l.toArray i).all (· < i)) = true)
    (hN0 : Nf 0 = N) (hmono : ∀ i, i < l.length → Nf i ≤ Nf (i + 1)) (hst0 : (σf 0).le σ)
    (hW : ∀ i j, i < l.length → W i j → T i j) (hT : ∀ i j, i < l.length → T i j → j < Nf i)
    (hsep : ∀ i k j, i < l.length → k < l.length → i ≠ k → waitsB l.toArray i k = false → waitsB l.toArray k i = false → T i j → ¬ WrP Nf W k j)
    (hslot : ∀ i o, l.toArray[i]? = some o → ∀ t v, (e i).get t = some v → Slot l.toArray vals env i t v)
    (hstep : ∀ i o, l.toArray[i]? = some o → dstOk n o.dst = true ∧ TextStep P n l.toArray vals Nf σf T W (e i) i o)
    (hk : K .normal (putAll l.toArray vals env l.length) (Nf l.length) (σf l.length)) :
    AWp r P n (.region id l.toArray true) env N σ K := by
  have hsz : l.toArray.size = l.length := by simp
  have hbk : ∀ i, ∀ d ∈ deps l.toArray i, d < i := back_all fun i hi d hd => by
    rw [List.all_eq_true] at hback
    have h1 := hback i (List.mem_range.2 (by omega))
    rw [List.all_eq_true] at h1
    simpa using h1 d hd
  have hle := mono_le (Nf := Nf) (k := l.length) hmono
  have hop : ∀ i, i < l.length → ∃ o, l.toArray[i]? = some o := fun i hi => ⟨l[i], by simp [hi]⟩
  have hfr : ∀ k j, k < l.length → ¬ WrP Nf W k j → σf (k + 1) j = σf k j := fun k j hk hw => by
    obtain ⟨o, ho⟩ := hop k hk
    rcases (hstep k o ho).2 with ⟨_, _, _, h, _⟩ | ⟨_, _, _, _, h⟩ | ⟨_, _, _, h, _⟩
    · rw [h]
    · rw [h]
    · exact h j hw
  have hst0' : ∀ j, stGo Nf σf W (fun _ => false) j l.length = σf 0 j := fun j => by
    have := stGo_at (i := 0) (S := fun _ => false) (m := l.length) (fun k hk => hfr k j hk) (fun k _ _ => by simp) l.length (Nat.le_refl _)
    rw [this, Nat.min_eq_right (Nat.zero_le _)]
  have hst1 : ∀ j, stGo Nf σf W (fun _ => true) j l.length = σf l.length j := fun j => by
    have := stGo_at (i := l.length) (S := fun _ => true) (m := l.length) (fun k hk => hfr k j hk) (fun k hk _ => by simp [hk]) l.length (Nat.le_refl _)
    rw [this, Nat.min_self]
  refine awp_any (putAll l.toArray vals env l.length) vals Nf (fun S j => stGo Nf σf W S j l.length) hm honce hback hN0 hmono ?_ ?_ ?_ ?_ ?_
  · intro j b hj
    have hj : stGo Nf σf W (fun _ => false) j l.length = some b := hj
    rw [hst0'] at hj
    exact hst0 j b hj
  · intro S S' h
    funext j
    have : ∀ m, m ≤ l.length → stGo Nf σf W S j m = stGo Nf σf W S' j m := by
      intro m
      induction m with
      | zero => intro _; rfl
      | succ m ih =>
        intro hm
        unfold stGo
        rw [ih (by omega)]
        by_cases hs : S' m = true ∧ WrP Nf W m j
        · rw [if_pos hs, if_pos (by rw [h m (by omega)]; exact hs)]
        · rw [if_neg hs, if_neg (by rw [h m (by omega)]; exact hs)]
    exact this _ (Nat.le_refl _)
  · intro i o S ho hSi hd hc _
    have hi : i < l.length := by have := (Array.getElem?_eq_some_iff.1 ho).1; omega
    have hdone := waits_done hbk hc i hd
    have hnot : ∀ k, waitsB l.toArray k i = true → S k = false := fun k hk => by
      cases h : S k with
      | false => rfl
      | true =>
        have := waits_done hbk hc k (fun d hd2 => hc k d hd2 h) i hk
        rw [hSi] at this; cases this
    refine ⟨e i, fun t v hv => ?_, (hstep i o ho).1, ?_⟩
    · rcases hslot i o ho t v hv with ⟨d, h1, h2, h3, h4⟩ | ⟨h1, h2⟩
      · rw [getS_writer honce h3 _ (List.mem_range.2 h2), if_pos (hdone d h1), h4]
      · have hall : ∀ d, d < l.toArray.size → dstOf l.toArray d = some t → S d = false := fun d hd1 hd2 => by
          rcases h2 d hd1 hd2 with rfl | h3
          · exact hSi
          · exact hnot d h3
        have : ∀ (q : List Nat), (∀ d ∈ q, d < l.toArray.size) → getS l.toArray vals S q env t = env.get t := by
          intro q
          induction q with
          | nil => intro _; rfl
          | cons d q ih =>
            intro hq
            simp only [getS, ih (fun d hd => hq d (by simp [hd]))]
            split
            · rename_i hdt
              rw [hall d (hq d (by simp)) hdt]; simp
            · rfl
        rw [this _ (fun d hd => List.mem_range.1 hd), h1]
    · have hupd : ∀ j, ¬ WrP Nf W i j → stGo Nf σf W (upd S i) j l.length = stGo Nf σf W S j l.length := fun j hw => by
        have : ∀ m, stGo Nf σf W (upd S i) j m = stGo Nf σf W S j m := by
          intro m
          induction m with
          | zero => rfl
          | succ m ih =>
            unfold stGo
            rw [ih]
            by_cases e : m = i
            · subst e
              rw [if_neg (fun h => hw h.2), if_neg (fun h => hw h.2)]
            · have hu : upd S i m = S m := by simp [upd, e]
              by_cases hs : S m = true ∧ WrP Nf W m j
              · rw [if_pos hs, if_pos (by rw [hu]; exact hs)]
              · rw [if_neg hs, if_neg (by rw [hu]; exact hs)]
        exact this _
      -- a block that operation i touches is written, among the others, only by those before it in the order or behind it
      have hord : ∀ k j, k < l.length → T i j → WrP Nf W k j → k ≠ i → (S k = true ↔ k < i) := fun k j hk hTj hw hne => by
        have h : waitsB l.toArray i k = true ∨ waitsB l.toArray k i = true := by
          cases h1 : waitsB l.toArray i k with
          | true => exact .inl rfl
          | false =>
            cases h2 : waitsB l.toArray k i with
            | true => exact .inr rfl
            | false => exact absurd hw (hsep i k j hi hk (fun e => hne e.symm) h1 h2 hTj)
        have hlt : ∀ a b, waitsB l.toArray a b = true → b < a := by
          intro a
          induction a using Nat.strongRecOn with
          | _ a ih =>
            intro b hb
            obtain ⟨d, h1, h2⟩ := (waitsB_iff _ a b (hbk a)).1 hb
            have := hbk a d h1
            rcases h2 with rfl | h2
            · exact this
            · have := ih d this b h2; omega
        rcases h with h | h
        · exact ⟨fun _ => hlt _ _ h, fun _ => hdone k h⟩
        · have := hlt _ _ h
          rw [hnot k h]
          exact ⟨fun h => by simp at h, fun h => by omega⟩
      have hview : ∀ j, T i j → stGo Nf σf W S j l.length = σf i j := fun j hTj => by
        have hst := stGo_at (i := i) (S := S) (m := l.length) (fun k hk => hfr k j hk) (fun k hk hw => by
          by_cases e : k = i
          · subst e; rw [hSi]; simp
          · exact hord k j hk hTj hw e) l.length (Nat.le_refl _)
        rw [hst, Nat.min_eq_right (by omega)]
      rcases (hstep i o ho).2 with ⟨h1, h2, h3, h4, h5⟩ | ⟨h1, h2, h3, h4, h5⟩ | ⟨h1, hbe, hbc, h2, hWs, h3⟩
      · refine .inr (.inr ⟨h1, fun j b hj => ?_, viewOf (T i) (fun _ => False) (σf i), fun j b hj => ?_, h5⟩)
        · have hj : stGo Nf σf W (upd S i) j l.length = some b := hj
          rw [hupd j (fun hw => hw.elim (h3 j) fun hw => by omega)] at hj
          exact hj
        · obtain ⟨hTj, b0, p1, p2, p3, p4, p5⟩ := viewOf_some hj
          refine ⟨?_, p5.resolve_right (fun h => h.1), b0, (hview j hTj).trans p1, p2.symm, p3.symm⟩
          cases ho : b.own with
          | false => rfl
          | true => exact (p4 ho).2.elim
      · refine .inl ⟨h1, h2, fun j b hj => ?_⟩
        have hj : stGo Nf σf W (upd S i) j l.length = some b := hj
        rw [hupd j (fun hw => hw.elim (h4 j) fun hw => by omega)] at hj
        exact hj
      · refine .inr (.inl ⟨h1, hbe, viewOf (T i) (W i) (σf i), fun j b hj => ?_, h3.mono fun v N1 σ1 ⟨g1, g2, g3⟩ => ⟨g1, g2, fun j b hj => ?_⟩⟩)
        · obtain ⟨hTj, b0, p1, p2, p3, p4, p5⟩ := viewOf_some hj
          refine ⟨hT i j hi hTj, ⟨fun x hx => (hbc j b0 hTj p1).1 x (p2 ▸ hx), by rw [p3]; exact (hbc j b0 hTj p1).2⟩, b0, ?_, p2.symm, p3.symm, fun ho => (p4 ho).1, p5.imp (fun h => h) fun h => h.2⟩
          exact (hview j hTj).trans p1
        · have hj : stGo Nf σf W (upd S i) j l.length = some b := hj
          by_cases hw : WrP Nf W i j
          · refine .inr ?_
            have hst := stGo_at (i := i + 1) (S := upd S i) (m := l.length) (fun k hk => hfr k j hk) (fun k hk hwk => by
              by_cases e : k = i
              · subst e; simp [upd]
              · simp only [upd, e, if_false]
                rcases hw with hw | hw
                · rw [hord k j hk (hW i j hi hw) hwk e]; omega
                · -- a new block of operation i: who else writes it comes behind
                  rcases hwk with hwk | hwk
                  · have hTk := hW k j hk hwk
                    have hjk := hT k j hk hTk
                    have hik : i < k := by
                      rcases Nat.lt_or_ge i k with h | h
                      · exact h
                      · have := hle i k h (by omega); omega
                    have h : waitsB l.toArray k i = true := by
                      cases h1 : waitsB l.toArray k i with
                      | true => rfl
                      | false =>
                        cases h2 : waitsB l.toArray i k with
                        | true =>
                          have := hdone k h2
                          have hlt : ∀ a b, waitsB l.toArray a b = true → b < a := by
                            intro a
                            induction a using Nat.strongRecOn with
                            | _ a ih =>
                              intro b hb
                              obtain ⟨d, h1, h2⟩ := (waitsB_iff _ a b (hbk a)).1 hb
                              have := hbk a d h1
                              rcases h2 with rfl | h2
                              · exact this
                              · have := ih d this b h2; omega
                          have := hlt _ _ h2; omega
                        | false => exact absurd (Or.inr hw) (hsep k i j hk hi e h1 h2 hTk)
                    rw [hnot k h]
                    exact ⟨fun h => by simp at h, fun h => by omega⟩
                  · exfalso
                    rcases Nat.lt_or_ge k i with h | h
                    · have := hle i (k + 1) (by omega) (by omega); omega
                    · have := hle k (i + 1) (by omega) (by omega); omega) l.length (Nat.le_refl _)
            rw [hst, Nat.min_eq_right (by omega)] at hj
            obtain ⟨q1, q2⟩ := g3 j b hj hw
            refine ⟨q1, q2, ?_⟩
            rcases hw with hw | hw
            · obtain ⟨b0, hb0⟩ := hWs j b hw hj
              obtain ⟨b', hb', _⟩ := viewOf_get (W := W i) (hW i j hi hw) hb0 (.inr hw)
              exact .inr ⟨b', hb'⟩
            · exact .inl hw
          · rw [hupd j hw] at hj
            refine .inl ⟨hj, fun bF hbF => ?_⟩
            obtain ⟨_, b0, _, _, _, p4, _⟩ := viewOf_some hbF
            cases ho : bF.own with
            | false => rfl
            | true => exact absurd (Or.inl (p4 ho).2) hw
  · intro ho t v hv
    rcases putAll_knows vals env l.length (by omega) t v hv with ⟨d, h1, h2, h3⟩ | ⟨h1, h2⟩
    · rw [getS_writer ho h2 _ (List.mem_range.2 (by omega)), if_pos rfl, h3]
    · have : ∀ (q : List Nat), (∀ d ∈ q, d < l.length) → getS l.toArray vals (fun _ => true) q env t = env.get t := by
        intro q
        induction q with
        | nil => intro _; rfl
        | cons d q ih =>
          intro hq
          simp only [getS, ih (fun d hd => hq d (by simp [hd]))]
          rw [if_neg (h2 d (hq d (by simp)))]
      rw [this _ (fun d hd => by have := List.mem_range.1 hd; omega), h1]
  · show K .normal _ _ (fun j => stGo Nf σf W (fun _ => true) j l.length)
    rw [show (fun j => stGo Nf σf W (fun _ => true) j l.length) = σf l.length from funext hst1]
    exact hk
end
end Go.Abs

