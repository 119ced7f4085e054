/- Shaken texts of the layer and of the walks. -/
import Derived.Test.YtfialjllclclkaaFmFxC
set_option linter.unusedVariables false
namespace Go.Abs
noncomputable section
variable {P : Program} {n : Nat}

def partM (P : Program) (t : TypeId) : Option (Box (Nat → List Value → (Value → MR) → MR)) := match aggA P t with
  | some none => some ⟨fun off l K => Option.rec (motive := fun _ => MR) .no K (nthF off l)⟩
  | some (some (m + 1)) => some ⟨fun off l K => takeK .no (m + 1) (dropF off l) fun r => K (.agg ⟨r⟩)⟩
  | _ => none
theorem partM_ok {t : TypeId} {f : Box (Nat → List Value → (Value → MR) → MR)} (hf : partM P t = some f) {off : Nat} {l : List Value} {own : Bool} {z : ESz} {K : Value → MR} {v : Value} {N : Nat} {H : HeapT} (h : f.un off l K = .ok v N H) :
    ∃ r, loadA P t ⟨l, own, z⟩ off = some r ∧ K r = .ok v N H ∧ ∀ M, (∀ x ∈ l, Bdd M x) → Bdd M r := by
  unfold partM at hf
  split at hf
  · rename_i ha
    cases hf
    have h : Option.rec (motive := fun _ => MR) .no K (nthF off l) = .ok v N H := h
    obtain ⟨r, h1, h2⟩ := orec_ok h
    rw [nthF_eq] at h1
    exact ⟨r, by simp only [loadA, ha, h1], h2, fun M hM => hM r (List.mem_of_getElem? h1)⟩
  · rename_i m ha
    cases hf
    have h : takeK .no (m + 1) (dropF off l) (fun r => K (.agg ⟨r⟩)) = .ok v N H := h
    obtain ⟨h1, h2⟩ := takeK_ok h
    rw [dropF_eq] at h1 h2
    refine ⟨_, ?_, h2, fun M hM => bdd_of_list fun x hx => hM x (List.mem_of_mem_drop (List.mem_of_mem_take hx))⟩
    have : off + (m + 1) ≤ l.length := by rw [List.length_drop] at h1; omega
    simp only [loadA, ha, cellsA, if_pos this, Option.map_some]
  · cases hf
def stLoad (P : Program) (t : TypeId) (x : Operand) : SOp := match partM P t with
  | some g => .mem false fun call c E N H => Option.rec (motive := fun _ => MR) .no (fun u => asPtr .no u fun i off => rowAt c H i fun l _ => g.un off l fun v => .ok v N H) ((rdB x).un E)
  | none => genB P (.load t x)
theorem stLoad_ok (t : TypeId) (x : Operand) : SOpOk P n (.load t x) (stLoad P t x) := by
  unfold stLoad
  split
  · rename_i g hg
    intro call c E N H v N' H' h
    replace h := orec_ok h
    obtain ⟨u, hx, h⟩ := h
    replace h := asPtr_ok h
    obtain ⟨i, off, rfl, h⟩ := h
    replace h := rowAt_ok h
    obtain ⟨l, k, hl, hv, h⟩ := h
    replace h := partM_ok (own := !c.ro i) (z := .n k) hg h
    obtain ⟨r, hr, h, hb⟩ := h
    cases h
    rw [rdB_eq] at hx
    refine ⟨?_, fun _ _ hI hE => hb N (hI.bdd _ _ hl).2.1⟩
    simp only [evOp, evLoad, hx, hv, Option.bind_some, hr, Option.map_some]
  · exact genB_ok _
def stStore (P : Program) (t : TypeId) (x y : Operand) : SOp := match sizeA P t with
  | some s => .mem false fun call c E N H => Option.rec (motive := fun _ => MR) .no (fun u => Option.rec (motive := fun _ => MR) .no (fun v => asPtr .no u fun i off => ownAt c H i fun l k =>
      Bool.rec (motive := fun _ => MR) .no (Bool.rec (motive := fun _ => MR) .no (putsK .no off (spreadF v) l fun r => .ok undef N ((pth i).set H (some (r, .n k)))) (allOne (spreadF v))) (lenIs (spreadF v) s)) ((rdB y).un E)) ((rdB x).un E)
  | none => genB P (.store t x y)
theorem stStore_ok (t : TypeId) (x y : Operand) : SOpOk P n (.store t x y) (stStore P t x y) := by
  unfold stStore
  split
  · rename_i s hs
    intro call c E N H v N' H' h
    replace h := orec_ok h
    obtain ⟨u, hx, h⟩ := h
    replace h := orec_ok h
    obtain ⟨w, hy, h⟩ := h
    replace h := asPtr_ok h
    obtain ⟨i, off, rfl, h⟩ := h
    replace h := ownAt_ok h
    obtain ⟨l, k, hl, hv, h⟩ := h
    replace h := brec_ok h
    obtain ⟨h1, h⟩ := h
    replace h := brec_ok h
    obtain ⟨h2, h⟩ := h
    replace h := putsK_ok h
    obtain ⟨h3, h⟩ := h
    cases h
    rw [rdB_eq] at hx hy
    have h1 := lenIs_eq h1
    have h2 := allOne_eq h2
    rw [spreadF_eq] at h1 h2 h3 ⊢
    refine ⟨?_, fun _ _ _ _ => .of_flat rfl⟩
    have hc : (true && decide (sizeA P t = some (spread w).length) && (spread w).all (·.oneCell') && Nat.ble (off + (spread w).length) l.length) = true := by
      rw [hs, h1, h2]
      simp
      omega
    simp only [evOp, evStore, hx, hy, hv, hc, if_true]
    rfl
  · exact genB_ok _
def stAlloc (P : Program) (t : TypeId) : SOp := match zeroA P t with
  | some z => bif (spread z).all flat then .mem false fun call c E N H => .ok (ptrA N) (Nat.add N 1) ((pth N).set H (some (spread z, .n 1))) else genB P (.alloc t)
  | none => genB P (.alloc t)
theorem stAlloc_ok (t : TypeId) : SOpOk P n (.alloc t) (stAlloc P t) := by
  unfold stAlloc
  split
  · rename_i z hz
    cases hf : (spread z).all flat with
    | false => exact genB_ok _
    | true =>
      intro call c E N H v N' H' h
      cases h
      refine ⟨?_, fun _ _ _ _ => .ptr (Nat.lt_succ_self _)⟩
      simp only [evOp, evAlloc, hz, Option.bind_some, hf, if_true]
      rfl
  · exact genB_ok _
def stBox (x : Operand) : SOp := .mem false fun call c E N H => Option.rec (motive := fun _ => MR) .no (fun v => .ok (ptrA N) (Nat.add N 1) ((pth N).set H (some (spreadF v, .n 1)))) ((rdB x).un E)
theorem stBox_ok (t : TypeId) (x : Operand) : SOpOk P n (.box t x) (stBox x) := fun call c E N H v N' H' h => by
  replace h := orec_ok h
  obtain ⟨u, hx, h⟩ := h
  cases h
  rw [rdB_eq] at hx
  refine ⟨?_, fun _ _ _ _ => .ptr (Nat.lt_succ_self _)⟩
  rw [spreadF_eq]
  simp only [evOp, evBox, hx, Option.map_some]
  rfl

def places (place : Nat → Option (Nat × Nat)) (parts : List (Nat × Operand)) : Option (List (Nat × Nat × Operand)) := parts.mapM fun p => (place p.1).map fun q => (q.1, q.2, p.2)
def fillB : List (Nat × Nat × Operand) → Box (Trie Value → List Value → (List Value → MR) → MR)
  | [] => ⟨fun _ l K => K l⟩
  | (off, s, x) :: ps => ⟨fun E l K => Option.rec (motive := fun _ => MR) .no (fun v => Bool.rec (motive := fun _ => MR) .no (putsK .no off (spreadF v) l fun r => (fillB ps).un E r K) (lenIs (spreadF v) s)) ((rdB x).un E)⟩
theorem fillB_ok {place : Nat → Option (Nat × Nat)} {E : Trie Value} {v : Value} {N : Nat} {H : HeapT} : ∀ {parts : List (Nat × Operand)} {pl : List (Nat × Nat × Operand)} {l : List Value} {K : List Value → MR}, places place parts = some pl → (fillB pl).un E l K = .ok v N H →
    ∃ ps r, (parts.mapM fun p => (opdT E p.2).map fun v => (p.1, v)) = some ps ∧ fillA place l ps = some r ∧ K r = .ok v N H ∧ ∀ M, EB n E M → (∀ x ∈ l, Bdd M x) → ∀ x ∈ r, Bdd M x
  | [], pl, l, K, hp, h => by
    simp [places] at hp; subst hp
    exact ⟨[], l, rfl, rfl, h, fun M _ hl => hl⟩
  | p :: parts, pl, l, K, hp, h => by
    simp only [places, List.mapM_cons] at hp
    cases h1 : place p.1 with
    | none => simp [h1] at hp
    | some q =>
      cases h2 : parts.mapM (fun p => (place p.1).map fun q => (q.1, q.2, p.2)) with
      | none => simp [h1, h2] at hp
      | some pl2 =>
        simp [h1, h2] at hp; subst hp
        replace h := orec_ok h
        obtain ⟨u, hx, h⟩ := h
        replace h := brec_ok h
        obtain ⟨h3, h⟩ := h
        replace h := putsK_ok h
        obtain ⟨h4, h⟩ := h
        obtain ⟨ps, r, g1, g2, g3, g4⟩ := fillB_ok (parts := parts) h2 h
        rw [rdB_eq] at hx
        have h3 := lenIs_eq h3
        rw [spreadF_eq] at h3 h4 g2 g4
        refine ⟨(p.1, u) :: ps, r, by simp [List.mapM_cons, hx, g1], ?_, g3, fun M hE hl => g4 M hE (bdd_splice hl (bdd_spread (bdd_opdT hE hx)))⟩
        have hc : (spread u).length = q.2 ∧ q.1 + q.2 ≤ l.length := ⟨h3, by rw [← h3]; exact h4⟩
        simp only [fillA, h1, if_pos hc, g2]
def stBuildG (P : Program) (place : Nat → Option (Nat × Nat)) (z : Value) (t : TypeId) (parts : Array (Nat × Operand)) : SOp := match places place parts.toList with
  | some pl => bif (spread z).all flat then .mem false fun call c E N H => (fillB pl).un E (spread z) fun r => .ok (.agg ⟨r⟩) N H else genB P (.build t parts)
  | none => genB P (.build t parts)
def stBuild (P : Program) (t : TypeId) (parts : Array (Nat × Operand)) : SOp := match P.underlying t, zeroA P t with
  | some (.struct fs), some z => match fs.toList.mapM fun f => (sizeA P f.type).map fun s => (f.offset, s) with
    | some pl => stBuildG P (pl[·]?) z t parts
    | none => genB P (.build t parts)
  | some (.array _ el), some z => match P.info? el with
    | some inf => stBuildG P (fun i => some (i * inf.size, inf.size)) z t parts
    | none => genB P (.build t parts)
  | _, _ => genB P (.build t parts)
theorem flat_bdd {l : List Value} (h : l.all flat = true) (M : Nat) : ∀ x ∈ l, Bdd M x := fun x hx => .of_flat (List.all_eq_true.1 h x hx)
theorem stBuildG_ok (place : Nat → Option (Nat × Nat)) (z : Value) (t : TypeId) (parts : Array (Nat × Operand))
    (hev : ∀ (E : Trie Value) (N : Nat) (H : HeapT) ps r, partsE (opdT E) parts = some ps → (spread z).all flat = true → fillA place (spread z) ps = some r → evBuild P (opdT E) t parts N H = some (.agg r.toArray, N, H)) :
    SOpOk P n (.build t parts) (stBuildG P place z t parts) := by
  unfold stBuildG
  split
  · rename_i pl hpl
    cases hf : (spread z).all flat with
    | false => exact genB_ok _
    | true =>
      intro call c E N H v N' H' h
      obtain ⟨ps, r, g1, g2, g3, g4⟩ := fillB_ok (n := n) hpl h
      cases g3
      refine ⟨?_, fun _ _ hI hE => bdd_of_list (g4 N hE (flat_bdd hf N))⟩
      simp only [evOp]
      exact hev E N H ps r g1 hf g2
  · exact genB_ok _
theorem stBuild_ok (t : TypeId) (parts : Array (Nat × Operand)) : SOpOk P n (.build t parts) (stBuild P t parts) := by
  unfold stBuild
  split
  · rename_i fs z hd hz
    split
    · rename_i pl hpl
      refine stBuildG_ok _ z t parts fun E N H ps r h1 h2 h3 => ?_
      simp only [evBuild, hd, hz, h1, h2, if_true, hpl, Option.bind_some, h3, Option.map_some]
    · exact genB_ok _
  · rename_i len el z hd hz
    split
    · rename_i inf hinf
      refine stBuildG_ok _ z t parts fun E N H ps r h1 h2 h3 => ?_
      simp only [evBuild, hd, hz, h1, h2, if_true, hinf, Option.bind_some, h3, Option.map_some]
    · exact genB_ok _
  · exact genB_ok _
def stBuildSlice (P : Program) (t : TypeId) (len : Nat) (parts : Array (Nat × Operand)) : SOp := match P.underlying t with
  | some (.slice el) => match P.info? el with
    | some inf => match inf.zero, places (fun i => some (i * inf.size, inf.size)) parts.toList with
      | some z, some pl => bif (spread z).all flat && (lenIs (spread z) inf.size && (Nat.blt 0 inf.size && Nat.ble (len * inf.size) 16777216)) then
          .mem false fun call c E N H => (fillB pl).un E (zerosA (spread z) (len * inf.size)) fun r => Bool.rec (motive := fun _ => MR) .no (.ok (rowA N len) (Nat.add N 1) ((pth N).set H (some (r, .n inf.size)))) (Nat.ble (len * inf.size) r.length)
        else genB P (.buildSlice t len parts)
      | _, _ => genB P (.buildSlice t len parts)
    | none => genB P (.buildSlice t len parts)
  | _ => genB P (.buildSlice t len parts)
theorem stBuildSlice_ok (t : TypeId) (len : Nat) (parts : Array (Nat × Operand)) : SOpOk P n (.buildSlice t len parts) (stBuildSlice P t len parts) := by
  unfold stBuildSlice
  split
  · rename_i el hd
    split
    · rename_i inf hinf
      split
      · rename_i z pl hz hpl
        cases hf : (spread z).all flat && (lenIs (spread z) inf.size && (Nat.blt 0 inf.size && Nat.ble (len * inf.size) 16777216)) with
        | false => exact genB_ok _
        | true =>
          intro call c E N H v N' H' h
          obtain ⟨ps, r, g1, g2, g3, g4⟩ := fillB_ok (n := n) hpl h
          replace g3 := brec_ok g3
          obtain ⟨g5, g3⟩ := g3
          cases g3
          simp only [Bool.and_eq_true] at hf
          obtain ⟨f1, f2, f3, f4⟩ := hf
          have f2 := lenIs_eq f2
          refine ⟨?_, fun _ _ _ _ => .slice (Nat.lt_succ_self _)⟩
          have hc : ((spread z).all flat && decide ((spread z).length = inf.size) && Nat.blt 0 inf.size && Nat.ble (len * inf.size) 16777216) = true := by
            rw [f1, f3, f4, decide_eq_true f2]; rfl
          have g1 : partsE (opdT E) parts = some ps := g1
          simp only [evOp, evBuildSlice, hd, g1, hinf, hz, Option.bind_some, hc, if_true, g2, g5]
          rfl
      · exact genB_ok _
    · exact genB_ok _
  · exact genB_ok _

def mkSl (i off len cap : Nat) (N : Nat) (H : HeapT) : MR := forceN off fun off => forceN len fun len => forceN cap fun cap => .ok (.slice (some ⟨i, off, none⟩) len cap) N H
def stSlice (P : Program) (t : TypeId) (x : Operand) (lo hi : Option Operand) : SOp := match P.underlying t with
  | some (.slice el) => match P.info? el with
    | some inf => .mem true fun call c E N H => Option.rec (motive := fun _ => MR) .no (fun u => asSl .no u (fun _ _ => toMR (evOp P call c (opdT E) (.slice t x lo hi none) N H)) fun i off len cap =>
        rowAt c H i fun _ k => (boundB lo).un E 0 fun l => (boundB hi).un E len fun h => Bool.rec (motive := fun _ => MR) .no (Bool.rec (motive := fun _ => MR) .no (Bool.rec (motive := fun _ => MR) .no (mkSl i (Nat.add off (Nat.mul l inf.size)) (Nat.sub h l) (Nat.sub cap l) N H) (Nat.ble h cap)) (Nat.ble l h)) (Nat.beq k inf.size)) ((rdB x).un E)
    | none => genB P (.slice t x lo hi none)
  | _ => genB P (.slice t x lo hi none)
theorem stSlice_ok (t : TypeId) (x : Operand) (lo hi : Option Operand) : SOpOk P n (.slice t x lo hi none) (stSlice P t x lo hi) := by
  unfold stSlice
  split
  · rename_i el hd
    split
    · rename_i inf hinf
      intro call c E N H v N' H' h
      refine ⟨?_, fun h => by cases h⟩
      replace h := orec_ok h
      obtain ⟨u, hx, h⟩ := h
      rw [rdB_eq] at hx
      rcases asSl_cases .no u (fun _ _ => toMR (evOp P call c (opdT E) (.slice t x lo hi none) N H)) (fun i off len cap =>
        rowAt c H i fun _ k => (boundB lo).un E 0 fun l => (boundB hi).un E len fun h => Bool.rec (motive := fun _ => MR) .no (Bool.rec (motive := fun _ => MR) .no (Bool.rec (motive := fun _ => MR) .no (mkSl i (Nat.add off (Nat.mul l inf.size)) (Nat.sub h l) (Nat.sub cap l) N H) (Nat.ble h cap)) (Nat.ble l h)) (Nat.beq k inf.size)) with ⟨i, off, len, cap, rfl, hh⟩ | ⟨_, _, rfl, hh⟩ | hh
      · rw [hh] at h
        replace h := rowAt_ok h
        obtain ⟨l, k, hl, hv, h⟩ := h
        replace h := boundB_ok h
        obtain ⟨a, ha, h⟩ := h
        replace h := boundB_ok h
        obtain ⟨b, hb, h⟩ := h
        replace h := brec_ok h
        obtain ⟨h1, h⟩ := h
        replace h := brec_ok h
        obtain ⟨h2, h⟩ := h
        replace h := brec_ok h
        obtain ⟨h3, h⟩ := h
        have h : MR.ok (.slice (some ⟨i, off + a * inf.size, none⟩) (b - a) (cap - a)) N H = .ok v N' H' := h
        cases h
        simp only [evOp, evSlice, hd, hx, hv, hinf, ha, hb, isRow, h1, h2, h3, Bool.and_self, if_true]
      · rw [hh] at h; exact toMR_ok h
      · rw [hh] at h; cases h
    · exact genB_ok _
  · exact genB_ok _

def appOwn (size bytes : Nat) (c : Ctx) (N : Nat) (H : HeapT) (m : Nat) (news : List Value) (i off k : Nat) : MR :=
  ownAt c H i fun l sz => Bool.rec (motive := fun _ => MR) .no (appK .no (Nat.mul k size) (dropF off l) news fun r => forceN (Nat.add k m) fun km =>
    Bool.rec (motive := fun _ => MR) .no (Bool.rec (motive := fun _ => MR) .no (.ok (rowA N km) (Nat.add N 1) ((pth N).set ((pth i).set H none) (some (r, .n size)))) (Nat.ble km 140737488355328)) (Nat.ble (Nat.mul km bytes) 140737488355328)) (Nat.beq sz size)
def appNew (size bytes : Nat) (N : Nat) (H : HeapT) (m : Nat) (news : List Value) : MR :=
  Bool.rec (motive := fun _ => MR) .no (Bool.rec (motive := fun _ => MR) .no (.ok (rowA N m) (Nat.add N 1) ((pth N).set H (some (news, .n size)))) (Nat.ble m 140737488355328)) (Nat.ble (Nat.mul m bytes) 140737488355328)
def appTo (size bytes : Nat) (c : Ctx) (N : Nat) (H : HeapT) (s : Value) (m : Nat) (news : List Value) : MR :=
  asSl .no s (fun k cap => Bool.rec (motive := fun _ => MR) .no (Bool.rec (motive := fun _ => MR) .no (appNew size bytes N H m news) (Nat.beq cap 0)) (Nat.beq k 0)) (fun i off k _ => appOwn size bytes c N H m news i off k)
def appFrom (size bytes : Nat) (c : Ctx) (N : Nat) (H : HeapT) (s : Value) (j offj m : Nat) : MR :=
  rowAt c H j fun lu _ => takeK .no (Nat.mul m size) (dropF offj lu) fun news => Bool.rec (motive := fun _ => MR) .no (appTo size bytes c N H s m news) (allOne news)
def appSt (size bytes : Nat) (c : Ctx) (N : Nat) (H : HeapT) (s u : Value) (gen : MR) : MR :=
  asSl .no u (fun _ _ => gen) fun j offj m _ => Bool.rec (motive := fun _ => MR) (appFrom size bytes c N H s j offj m) gen (Nat.beq m 0)
def stAppend (P : Program) (x y : Operand) (t : TypeId) (op : Op) : SOp := match P.underlying t with
  | some (.slice el) => match P.info? el with
    | some inf => match inf.zero with
      | some z => bif Nat.beq z.cells.size inf.size && Nat.blt 0 inf.size then
          .mem true fun call c E N H => Option.rec (motive := fun _ => MR) .no (fun s => Option.rec (motive := fun _ => MR) .no (fun u => appSt inf.size inf.bytes c N H s u (toMR (evOp P call c (opdT E) op N H))) ((rdB y).un E)) ((rdB x).un E)
        else genB P op
      | none => genB P op
    | none => genB P op
  | _ => genB P op
theorem cellsA_ok {l : List Value} {own : Bool} {z : ESz} {off m : Nat} (hm : 0 < m) (h : m ≤ (l.drop off).length) : cellsA ⟨l, own, z⟩ off m = some ((l.drop off).take m) := by
  unfold cellsA
  rw [List.length_drop] at h
  rw [if_pos (by show off + m ≤ l.length; omega)]
theorem evAppend_some {c : Ctx} {ρ : Operand → Option Value} {t el : TypeId} {x y : Operand} {N : Nat} {H : HeapT} {inf : TypeInfo} {s z : Value} {m k : Nat} {root : Option (Nat × Nat)} {olds news : List Value} {a : Option Addr} {cap : Nat}
    (hd : P.underlying t = some (.slice el)) (hinf : P.info? el = some inf) (hx : ρ x = some s) (hy : ρ y = some (.slice a m cap)) (hm : m ≠ 0) (hz : inf.zero = some z) (hr : rootA s = some (root, k))
    (ho : srcA (view c H) inf.size s = some olds) (hn : srcA (view c H) inf.size (.slice a m cap) = some news)
    (hc : (decide (z.cells.size = inf.size) && news.all (·.oneCell') && rootOwn (view c H) inf.size root && Nat.ble ((k + m) * inf.bytes) 140737488355328 && Nat.ble (k + m) 140737488355328) = true) :
    evAppend P c ρ t x y N H = some (rowA N (k + m), N + 1, (delRoot H root).put N (olds ++ news, inf.size)) := by
  cases m with
  | zero => exact absurd rfl hm
  | succ m => simp only [evAppend, hd, hx, hy, hinf, lenA, hz, hr, ho, hn, hc, if_true]
theorem stAppend_ok (x y : Operand) (t : TypeId) (op : Op) (hop : ∀ call c E N H, evOp P call c (opdT E) op N H = evAppend P c (opdT E) t x y N H) : SOpOk P n op (stAppend P x y t op) := by
  unfold stAppend
  split
  · rename_i el hd
    split
    · rename_i inf hinf
      split
      · rename_i z hz
        cases hst : Nat.beq z.cells.size inf.size && Nat.blt 0 inf.size with
        | false => exact genB_ok _
        | true =>
          simp only [Bool.and_eq_true] at hst
          obtain ⟨s1, s2⟩ := hst
          have s1 := Nat.eq_of_beq_eq_true s1
          have s2 := blt_lt s2
          intro call c E N H v N' H' h
          refine ⟨?_, fun h => by cases h⟩
          replace h := orec_ok h
          obtain ⟨s, hx, h⟩ := h
          replace h := orec_ok h
          obtain ⟨u, hy, h⟩ := h
          rw [rdB_eq] at hx hy
          rcases asSl_cases .no u (fun _ _ => toMR (evOp P call c (opdT E) op N H)) (fun j offj m _ => Bool.rec (motive := fun _ => MR) (appFrom inf.size inf.bytes c N H s j offj m) (toMR (evOp P call c (opdT E) op N H)) (Nat.beq m 0)) with ⟨j, offj, m, capu, rfl, hh⟩ | ⟨_, _, rfl, hh⟩ | hh
          · have h : Bool.rec (motive := fun _ => MR) (appFrom inf.size inf.bytes c N H s j offj m) (toMR (evOp P call c (opdT E) op N H)) (Nat.beq m 0) = .ok v N' H' := hh.symm.trans h
            cases hm : Nat.beq m 0 with
            | true => rw [hm] at h; exact toMR_ok h
            | false =>
              rw [hm] at h
              have hm0 : m ≠ 0 := Nat.ne_of_beq_eq_false hm
              replace h := rowAt_ok h
              obtain ⟨lu, ku, hlu, hvu, h⟩ := h
              replace h := takeK_ok h
              obtain ⟨h1, h⟩ := h
              replace h := brec_ok h
              obtain ⟨h2, h⟩ := h
              rw [dropF_eq] at h1 h2 h
              have h2 : ((lu.drop offj).take (m * inf.size)).all (·.oneCell') = true := allOne_eq h2
              have hpos : 0 < m * inf.size := Nat.mul_pos (by omega) s2
              have hnews : srcA (view c H) inf.size (.slice (some ⟨j, offj, none⟩) m capu) = some ((lu.drop offj).take (m * inf.size)) := by
                simp only [srcA, if_neg hm0, hvu, Option.bind_some]
                exact cellsA_ok hpos h1
              rw [hop]
              rcases asSl_cases .no s (fun k cap => Bool.rec (motive := fun _ => MR) .no (Bool.rec (motive := fun _ => MR) .no (appNew inf.size inf.bytes N H m ((lu.drop offj).take (m * inf.size))) (Nat.beq cap 0)) (Nat.beq k 0)) (fun i off k _ => appOwn inf.size inf.bytes c N H m ((lu.drop offj).take (m * inf.size)) i off k) with ⟨i, off, k, cap, rfl, hk⟩ | ⟨k, cap, rfl, hk⟩ | hk
              · have h : appOwn inf.size inf.bytes c N H m ((lu.drop offj).take (m * inf.size)) i off k = .ok v N' H' := hk.symm.trans h
                replace h := ownAt_ok h
                obtain ⟨l, size, hl, hv, h⟩ := h
                replace h := brec_ok h
                obtain ⟨h5, h⟩ := h
                have h5 := Nat.eq_of_beq_eq_true h5
                subst h5
                replace h := appK_ok h
                obtain ⟨h6, h⟩ := h
                rw [dropF_eq] at h6 h
                have h : Bool.rec (motive := fun _ => MR) .no (Bool.rec (motive := fun _ => MR) .no (.ok (rowA N (k + m)) (Nat.add N 1) ((pth N).set ((pth i).set H none) (some ((l.drop off).take (k * inf.size) ++ (lu.drop offj).take (m * inf.size), .n inf.size)))) (Nat.ble (k + m) 140737488355328)) (Nat.ble ((k + m) * inf.bytes) 140737488355328) = .ok v N' H' := h
                replace h := brec_ok h
                obtain ⟨h3, h⟩ := h
                replace h := brec_ok h
                obtain ⟨h4, h⟩ := h
                cases h
                have holds : srcA (view c H) inf.size (.slice (some ⟨i, off, none⟩) k cap) = some ((l.drop off).take (k * inf.size)) := by
                  simp only [srcA, hv, Option.bind_some]
                  split
                  · rename_i hk; subst hk; simp
                  · exact cellsA_ok (Nat.mul_pos (by omega) s2) h6
                have hc : (decide (z.cells.size = inf.size) && ((lu.drop offj).take (m * inf.size)).all (·.oneCell') && rootOwn (view c H) inf.size (some (i, off)) && Nat.ble ((k + m) * inf.bytes) 140737488355328 && Nat.ble (k + m) 140737488355328) = true := by
                  rw [decide_eq_true s1, h2, h3, h4]
                  simp [rootOwn, hv, isRow]
                exact evAppend_some hd hinf hx hy hm0 hz rfl holds hnews hc
              · have h : Bool.rec (motive := fun _ => MR) .no (Bool.rec (motive := fun _ => MR) .no (appNew inf.size inf.bytes N H m ((lu.drop offj).take (m * inf.size))) (Nat.beq cap 0)) (Nat.beq k 0) = .ok v N' H' := hk.symm.trans h
                replace h := brec_ok h
                obtain ⟨g1, h⟩ := h
                replace h := brec_ok h
                obtain ⟨g2, h⟩ := h
                have g1 := Nat.eq_of_beq_eq_true g1
                have g2 := Nat.eq_of_beq_eq_true g2
                subst g1; subst g2
                replace h := brec_ok h
                obtain ⟨h3, h⟩ := h
                replace h := brec_ok h
                obtain ⟨h4, h⟩ := h
                cases h
                have hc : (decide (z.cells.size = inf.size) && ((lu.drop offj).take (m * inf.size)).all (·.oneCell') && rootOwn (view c H) inf.size none && Nat.ble ((0 + m) * inf.bytes) 140737488355328 && Nat.ble (0 + m) 140737488355328) = true := by
                  rw [decide_eq_true s1, h2, Nat.zero_add, show Nat.ble (m * inf.bytes) 140737488355328 = true from h3, h4]
                  rfl
                have := evAppend_some (N := N) (k := 0) (olds := []) hd hinf hx hy hm0 hz rfl rfl hnews hc
                rw [Nat.zero_add, List.nil_append] at this
                exact this
              · have h : MR.no = .ok v N' H' := hk.symm.trans h
                cases h
          · exact toMR_ok (hh.symm.trans h)
          · have h : MR.no = .ok v N' H' := hh.symm.trans h
            cases h
      · exact genB_ok _
    · exact genB_ok _
  · exact genB_ok _

def stCallG (P : Program) (g : FuncId) (args : Array Operand) (op : Op) : SOp := bif callableB P g then .mem false fun call c E N H => (rdL args.toList).un E fun vs => toMR (call c (.func g) vs N H) else genB P op
def stCall (P : Program) (f : Operand) (args : Array Operand) (ts : Array TypeId) : SOp := match f with
  | .func g => stCallG P g args (.call ⟨.value (.func g), args, ts⟩)
  | f => genB P (.call ⟨.value f, args, ts⟩)
theorem stCall_ok (f : Operand) (args : Array Operand) (ts : Array TypeId) : SOpOk P n (.call ⟨.value f, args, ts⟩) (stCall P f args ts) := by
  unfold stCall
  split
  · rename_i g
    unfold stCallG
    cases hc : callableB P g with
    | false => exact genB_ok _
    | true =>
      intro call c E N H v N' H' h
      replace h := rdL_ok h
      obtain ⟨vs, hvs, h⟩ := h
      have h := toMR_ok h
      refine ⟨?_, fun _ hcall hI hE => (hcall c (.func g) vs N H v N' H' hI (bdd_opdTs hE hvs) h).2.2⟩
      simp only [evOp, evCallV, opdT, hvs, hc, if_true, List.nil_append, List.append_nil]
      exact h
  · exact genB_ok _

def stOp (P : Program) (op : Op) : SOp := match op with
  | .move x => stMove x
  | .assign x => stMove x
  | .binOp o t x y z => stBin P o t x y z
  | .unOp .not _ x => stNot x
  | .convert src dst x => stConv P src dst x
  | .extract x ix => stExtract x ix
  | .field t x f => stField P t x f
  | .index t x ix => stIndex P t x ix
  | .indexAddr t x ix => stIndexAddr P t x ix
  | .fieldAddr t x f => stFieldAddr P t x f
  | .nilCheck x => stNil P x
  | .load t x => stLoad P t x
  | .store t x y => stStore P t x y
  | .alloc t => stAlloc P t
  | .box _ x => stBox x
  | .build t parts => stBuild P t parts
  | .buildSlice t len parts => stBuildSlice P t len parts
  | .slice t x lo hi none => stSlice P t x lo hi
  | .call ⟨.value f, args, ts⟩ => stCall P f args ts
  | .call ⟨.builtin .len, args, ts⟩ => stLen P args ts
  | .call ⟨.builtin .append, args, ts⟩ => match args.toList, ts.toList with
    | [x, y], [t, t'] => bif Nat.beq t t' then stAppend P x y t (.call ⟨.builtin .append, args, ts⟩) else genB P (.call ⟨.builtin .append, args, ts⟩)
    | _, _ => genB P (.call ⟨.builtin .append, args, ts⟩)
  | op => genB P op
theorem stOp_ok (op : Op) : SOpOk P n op (stOp P op) := by
  unfold stOp
  split
  · exact stMove_ok _
  · exact stAssign_ok _
  · exact stBin_ok _ _ _ _ _
  · exact stNot_ok _ _
  · exact stConv_ok _ _ _
  · exact stExtract_ok _ _
  · exact stField_ok _ _ _
  · exact stIndex_ok _ _ _
  · exact stIndexAddr_ok _ _ _
  · exact stFieldAddr_ok _ _ _
  · exact stNil_ok _
  · exact stLoad_ok _ _
  · exact stStore_ok _ _ _
  · exact stAlloc_ok _
  · exact stBox_ok _ _
  · exact stBuild_ok _ _
  · exact stBuildSlice_ok _ _ _
  · exact stSlice_ok _ _ _ _
  · exact stCall_ok _ _ _
  · exact stLen_ok _ _
  · rename_i args ts
    split
    · rename_i x y t t' ha ht
      cases hb : Nat.beq t t' with
      | false => exact genB_ok _
      | true => exact stAppend_ok x y t _ fun call c E N H => by simp only [evOp, ha, ht, hb, cond_true]
    · exact genB_ok _
  · exact genB_ok _
end
end Go.Abs

