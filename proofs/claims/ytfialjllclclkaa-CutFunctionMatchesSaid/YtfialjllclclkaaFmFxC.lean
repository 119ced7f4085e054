/- Shaken texts of the layer and of the walks. -/
import Derived.Test.YtfialjllclclkaaFmFxB
set_option linter.unusedVariables false
namespace Go.Abs
noncomputable section
variable {P : Program} {n : Nat}

abbrev MemF := CallT → Ctx → Trie Value → Nat → HeapT → MR
inductive SOp where
  | pur (nb : Bool) (f : Trie Value → Option Value)
  | mem (nb : Bool) (f : MemF)
def SOpOk (P : Program) (n : Nat) (op : Op) : SOp → Prop
  | .pur nb f => ∀ E v, f E = some v → (∀ call c N H, evOp P call c (opdT E) op N H = some (v, N, H)) ∧ (nb = false → ∀ N, EB n E N → Bdd N v)
  | .mem nb f => ∀ call c E N H v N' H', f call c E N H = .ok v N' H' → evOp P call c (opdT E) op N H = some (v, N', H') ∧ (nb = false → CallOk P call → Inv c N H → EB n E N → Bdd N' v)
def genB (P : Program) (op : Op) : SOp := .mem true fun call c E N H => toMR (evOp P call c (opdT E) op N H)
theorem genB_ok (op : Op) : SOpOk P n op (genB P op) := fun call c E N H v N' H' h => ⟨toMR_ok h, fun h => by cases h⟩

theorem bigI_flat {o : BinOp} {k k' : IntKind} {a b : Int} {r : Value} (h : bigI o k a b = some r) (hk : (o = .shl ∨ o = .shr) ∨ k' = k) {x y : Operand} {z t : TypeId} {ρ : Operand → Option Value} (hx : ρ x = some (.int k a)) (hy : ρ y = some (.int k' b)) :
    pureX P ρ (.binOp o t x y z) = some r ∧ flat r = true := by
  have h1 : binA P o t (.int k a) (.int k' b) = some r := by
    cases o
    case shl => exact h
    case shr => exact h
    all_goals
      rcases hk with (hk | hk) | hk
      · cases hk
      · cases hk
      · subst hk
        simp only [binA]
        exact h
  refine ⟨?_, (run_binA_int h1 default).2⟩
  simp only [pureX, pureOp, hx, hy, Option.bind_some, h1]
def binB (o : BinOp) (k0 : IntKind) (x y : Operand) : SOp := .pur false fun E =>
  Option.rec (motive := fun _ => Option Value) none (fun u => Option.rec (motive := fun _ => Option Value) none (fun v => asInt u fun k a => asInt v fun k' b => (onKB k0).un k ((onKB k0).un k' ((arB o k0).un a b))) ((rdB y).un E)) ((rdB x).un E)
def shB (o : BinOp) (k0 : IntKind) (x y : Operand) : SOp := .pur false fun E =>
  Option.rec (motive := fun _ => Option Value) none (fun u => Option.rec (motive := fun _ => Option Value) none (fun v => asInt u fun k a => asInt v fun _ b => (onKB k0).un k ((arB o k0).un a b)) ((rdB y).un E)) ((rdB x).un E)
def stBin (P : Program) (o : BinOp) (t : TypeId) (x y : Operand) (z : TypeId) : SOp := match P.underlying t with
  | some (.int k0) => match o with
    | .shl => shB .shl k0 x y
    | .shr => shB .shr k0 x y
    | o => binB o k0 x y
  | _ => genB P (.binOp o t x y z)
theorem binB_ok (o : BinOp) (k0 : IntKind) (t : TypeId) (x y : Operand) (z : TypeId) : SOpOk P n (.binOp o t x y z) (binB o k0 x y) := fun E r h => by
  replace h := orec_some h
  obtain ⟨u, hx, h⟩ := h
  replace h := orec_some h
  obtain ⟨v, hy, h⟩ := h
  replace h := asInt_some h
  obtain ⟨k, a, rfl, h⟩ := h
  replace h := asInt_some h
  obtain ⟨k', b, rfl, h⟩ := h
  replace h := onK_some h
  obtain ⟨rfl, h⟩ := h
  replace h := onK_some h
  obtain ⟨rfl, h⟩ := h
  rw [arB_eq] at h
  rw [rdB_eq] at hx hy
  obtain ⟨h1, h2⟩ := bigI_flat (P := P) (t := t) (z := z) h (.inr rfl) hx hy
  exact ⟨fun call c N H => by simp only [evOp, h1, Option.map_some], fun _ N _ => .of_flat h2⟩
theorem shB_ok (o : BinOp) (ho : o = .shl ∨ o = .shr) (k0 : IntKind) (t : TypeId) (x y : Operand) (z : TypeId) : SOpOk P n (.binOp o t x y z) (shB o k0 x y) := fun E r h => by
  replace h := orec_some h
  obtain ⟨u, hx, h⟩ := h
  replace h := orec_some h
  obtain ⟨v, hy, h⟩ := h
  replace h := asInt_some h
  obtain ⟨k, a, rfl, h⟩ := h
  replace h := asInt_some h
  obtain ⟨k', b, rfl, h⟩ := h
  replace h := onK_some h
  obtain ⟨rfl, h⟩ := h
  rw [arB_eq] at h
  rw [rdB_eq] at hx hy
  obtain ⟨h1, h2⟩ := bigI_flat (P := P) (t := t) (z := z) h (.inl ho) hx hy
  exact ⟨fun call c N H => by simp only [evOp, h1, Option.map_some], fun _ N _ => .of_flat h2⟩
theorem stBin_ok (o : BinOp) (t : TypeId) (x y : Operand) (z : TypeId) : SOpOk P n (.binOp o t x y z) (stBin P o t x y z) := by
  unfold stBin
  split
  · split
    · exact shB_ok _ (.inl rfl) _ _ _ _ _
    · exact shB_ok _ (.inr rfl) _ _ _ _ _
    · exact binB_ok _ _ _ _ _ _
  · exact genB_ok _
def stNot (x : Operand) : SOp := .pur false fun E => Option.rec (motive := fun _ => Option Value) none (fun u => asBool u none fun b => okB (not b)) ((rdB x).un E)
theorem stNot_ok (t : TypeId) (x : Operand) : SOpOk P n (.unOp .not t x) (stNot x) := fun E r h => by
  replace h := orec_some h
  obtain ⟨u, hx, h⟩ := h
  rw [rdB_eq] at hx
  cases u with
  | bool b =>
    have h : okB (not b) = some r := h
    rw [okB_eq] at h
    cases h
    exact ⟨fun call c N H => by simp [evOp, pureX, pureOp, hx], fun _ N _ => .of_flat rfl⟩
  | _ => cases h
def stConv (P : Program) (src dst : TypeId) (x : Operand) : SOp := match P.underlying src, P.underlying dst with
  | some _, some (.int k) => .pur false fun E => Option.rec (motive := fun _ => Option Value) none (fun u => asInt u fun _ a => Int.rec (motive := fun _ => Option Value) (fun m => okI k m (some (.int k (k.wrap (.ofNat m))))) (fun m => some (.int k (k.wrap (.negSucc m)))) a) ((rdB x).un E)
  | _, _ => genB P (.convert src dst x)
theorem stConv_ok (src dst : TypeId) (x : Operand) : SOpOk P n (.convert src dst x) (stConv P src dst x) := by
  unfold stConv
  split
  · rename_i d k h1 h2
    intro E r h
    replace h := orec_some h
    obtain ⟨u, hx, h⟩ := h
    replace h := asInt_some h
    obtain ⟨k', a, rfl, h⟩ := h
    rw [rdB_eq] at hx
    have h : some (Value.int k (k.wrap a)) = some r := by
      cases a with
      | ofNat m =>
        rw [← h]
        exact (okI_eq k m _ fun hm => congrArg (fun z => some (Value.int k z)) (wrap_nat k m hm)).symm
      | negSucc m => exact h
    cases h
    exact ⟨fun call c N H => by simp only [evOp, pureX, pureOp, hx, h1, h2, Option.map_some], fun _ N _ => .of_flat rfl⟩
  · exact genB_ok _
def stMove (x : Operand) : SOp := .pur false fun E => (rdB x).un E
theorem stMove_ok (x : Operand) : SOpOk P n (.move x) (stMove x) := fun E r h => by
  have h : (rdB x).un E = some r := h
  rw [rdB_eq] at h
  exact ⟨fun call c N H => by simp only [evOp, pureX, pureOp, h, Option.map_some], fun _ N hE => bdd_opdT hE h⟩
theorem stAssign_ok (x : Operand) : SOpOk P n (.assign x) (stMove x) := fun E r h => by
  have h : (rdB x).un E = some r := h
  rw [rdB_eq] at h
  exact ⟨fun call c N H => by simp only [evOp, pureX, pureOp, h, Option.map_some], fun _ N hE => bdd_opdT hE h⟩

def stExtract (x : Operand) (ix : Nat) : SOp := .pur false fun E => Option.rec (motive := fun _ => Option Value) none (fun u => asTup u fun l => nthF ix l) ((rdB x).un E)
theorem stExtract_ok (x : Operand) (ix : Nat) : SOpOk P n (.extract x ix) (stExtract x ix) := fun E r h => by
  replace h := orec_some h
  obtain ⟨u, hx, h⟩ := h
  replace h := asTup_some h
  obtain ⟨cs, rfl, h⟩ := h
  rw [rdB_eq] at hx
  rw [nthF_eq] at h
  refine ⟨fun call c N H => ?_, fun _ N hE => bdd_tup (bdd_opdT hE hx) r (List.mem_of_getElem? h)⟩
  rw [Array.getElem?_toList] at h
  simp only [evOp, pureX, pureOp, hx, h, Option.map_some]
def partF (P : Program) (t : TypeId) : Option (Box (Nat → List Value → Option Value)) := match aggA P t with
  | some none => some ⟨fun off l => nthF off l⟩
  | some (some m) => some ⟨fun off l => takeK none m (dropF off l) fun r => some (.agg ⟨r⟩)⟩
  | none => none
theorem partF_ok {t : TypeId} {f : Box (Nat → List Value → Option Value)} (hf : partF P t = some f) {off : Nat} {cs : Array Value} {r : Value} (h : f.un off cs.toList = some r) : partA P t cs off = some r ∧ ∀ N, (∀ x ∈ cs.toList, Bdd N x) → Bdd N r := by
  unfold partF at hf
  split at hf
  · rename_i ha
    cases hf
    have h : nthF off cs.toList = some r := h
    rw [nthF_eq] at h
    refine ⟨?_, fun N hN => hN r (List.mem_of_getElem? h)⟩
    rw [Array.getElem?_toList] at h
    unfold aggA at ha
    unfold partA
    split at ha
    · cases hi : P.info? t <;> simp [hi] at ha
    · cases hi : P.info? t <;> simp [hi] at ha
    · rename_i d n1 n2 hd
      rw [hd]
      cases d <;> first | exact absurd rfl (n1 _) | exact absurd rfl (n2 _ _) | exact h
    · cases ha
  · rename_i m ha
    cases hf
    have h : takeK none m (dropF off cs.toList) (fun r => some (Value.agg ⟨r⟩)) = some r := h
    replace h := takeK_some h
    obtain ⟨h1, h⟩ := h
    rw [dropF_eq] at h1 h
    cases h
    refine ⟨?_, fun N hN => bdd_of_list fun x hx => hN x (List.mem_of_mem_drop (List.mem_of_mem_take hx))⟩
    have e : cs.extract off (off + m) = ⟨(cs.toList.drop off).take m⟩ := by
      apply Array.ext'
      rw [Array.toList_extract]
      simp
    have hs : sizeA P t = some m ∧ (∃ fs, P.underlying t = some (.struct fs)) ∨ sizeA P t = some m ∧ (∃ a b, P.underlying t = some (.array a b)) := by
      unfold aggA at ha
      split at ha
      · rename_i fs hd
        cases hi : P.info? t with
        | none => simp [hi] at ha
        | some i => simp [hi] at ha; exact .inl ⟨by simp [sizeA, hi, ha], fs, hd⟩
      · rename_i a b hd
        cases hi : P.info? t with
        | none => simp [hi] at ha
        | some i => simp [hi] at ha; exact .inr ⟨by simp [sizeA, hi, ha], a, b, hd⟩
      · cases ha
      · cases ha
    rcases hs with ⟨q1, fs, q2⟩ | ⟨q1, a, b, q2⟩
    · simp only [partA, q1, q2, Option.map_some, e]
    · simp only [partA, q1, q2, Option.map_some, e]
  · cases hf
def stField (P : Program) (t : TypeId) (x : Operand) (f : Nat) : SOp := match P.underlying t with
  | some (.struct fs) => match fs[f]? with
    | some fd => match partF P fd.type with
      | some g => .pur false fun E => Option.rec (motive := fun _ => Option Value) none (fun u => asAgg u fun l => g.un fd.offset l) ((rdB x).un E)
      | none => genB P (.field t x f)
    | none => genB P (.field t x f)
  | _ => genB P (.field t x f)
theorem stField_ok (t : TypeId) (x : Operand) (f : Nat) : SOpOk P n (.field t x f) (stField P t x f) := by
  unfold stField
  split
  · rename_i fs hd
    split
    · rename_i fd hfd
      split
      · rename_i g hg
        intro E r h
        replace h := orec_some h
        obtain ⟨u, hx, h⟩ := h
        replace h := asAgg_some h
        obtain ⟨cs, rfl, h⟩ := h
        rw [rdB_eq] at hx
        replace h := partF_ok hg h
        obtain ⟨h1, h2⟩ := h
        exact ⟨fun call c N H => by simp only [evOp, pureX, pureOp, hd, hx, hfd, Option.bind_some, h1, Option.map_some], fun _ N hE => h2 N (bdd_agg (bdd_opdT hE hx))⟩
      · exact genB_ok _
    · exact genB_ok _
  · exact genB_ok _
def stIndex (P : Program) (t : TypeId) (x ix : Operand) : SOp := match P.underlying t with
  | some (.array len e) => match partF P e, sizeA P e with
    | some g, some s => .pur false fun E => Option.rec (motive := fun _ => Option Value) none (fun u => Option.rec (motive := fun _ => Option Value) none (fun v => asAgg u fun l => asNat none v fun i => Bool.rec (motive := fun _ => Option Value) none (g.un (Nat.mul i s) l) (Nat.blt i len)) ((rdB ix).un E)) ((rdB x).un E)
    | _, _ => genB P (.index t x ix)
  | _ => genB P (.index t x ix)
theorem stIndex_ok (t : TypeId) (x ix : Operand) : SOpOk P n (.index t x ix) (stIndex P t x ix) := by
  unfold stIndex
  split
  · rename_i len e hd
    split
    · rename_i g s hg hs
      intro E r h
      replace h := orec_some h
      obtain ⟨u, hx, h⟩ := h
      replace h := orec_some h
      obtain ⟨v, hi, h⟩ := h
      replace h := asAgg_some h
      obtain ⟨cs, rfl, h⟩ := h
      replace h := asNat_some h
      obtain ⟨k, i, rfl, h⟩ := h
      replace h := brec_some h
      obtain ⟨hlt, h⟩ := h
      have hlt := blt_lt hlt
      rw [rdB_eq] at hx hi
      replace h := partF_ok hg h
      obtain ⟨h1, h2⟩ := h
      have hc : (0 : Int) ≤ Int.ofNat i ∧ Int.ofNat i < (len : Int) := by
        constructor
        · exact Int.natCast_nonneg i
        · exact Int.ofNat_lt.2 hlt
      have h1 : partA P e cs ((Int.ofNat i).toNat * s) = some r := h1
      exact ⟨fun call c N H => by simp only [evOp, pureX, pureOp, hd, hx, hi, if_pos hc, hs, Option.bind_some, h1, Option.map_some], fun _ N hE => h2 N (bdd_agg (bdd_opdT hE hx))⟩
    · exact genB_ok _
  · exact genB_ok _

def mkPtr (i off : Nat) : Option Value := forceN off fun off => some (.pointer (some ⟨i, off, none⟩))
def stIndexAddr (P : Program) (t : TypeId) (x ix : Operand) : SOp := match P.underlying t with
  | some (.slice e) => match sizeA P e with
    | some s => .pur false fun E => Option.rec (motive := fun _ => Option Value) none (fun u => Option.rec (motive := fun _ => Option Value) none (fun v => asSl none u (fun _ _ => none) fun b o len _ => asNat none v fun i => Bool.rec (motive := fun _ => Option Value) none (mkPtr b (Nat.add o (Nat.mul i s))) (Nat.blt i len)) ((rdB ix).un E)) ((rdB x).un E)
    | none => genB P (.indexAddr t x ix)
  | some (.array len e) => match sizeA P e with
    | some s => .pur false fun E => Option.rec (motive := fun _ => Option Value) none (fun u => Option.rec (motive := fun _ => Option Value) none (fun v => asPtr none u fun b o => asNat none v fun i => Bool.rec (motive := fun _ => Option Value) none (mkPtr b (Nat.add o (Nat.mul i s))) (Nat.blt i len)) ((rdB ix).un E)) ((rdB x).un E)
    | none => genB P (.indexAddr t x ix)
  | _ => genB P (.indexAddr t x ix)
theorem stIndexAddr_ok (t : TypeId) (x ix : Operand) : SOpOk P n (.indexAddr t x ix) (stIndexAddr P t x ix) := by
  unfold stIndexAddr
  have hc : ∀ {i len : Nat}, i < len → (0 : Int) ≤ Int.ofNat i ∧ Int.ofNat i < (len : Int) := fun {i len} hlt => by
    constructor
    · exact Int.natCast_nonneg i
    · exact Int.ofNat_lt.2 hlt
  split
  · rename_i e hd
    split
    · rename_i s hs
      intro E r h
      replace h := orec_some h
      obtain ⟨u, hx, h⟩ := h
      replace h := orec_some h
      obtain ⟨v, hi, h⟩ := h
      rcases asSl_cases none u (fun _ _ => none) (fun b o len _ => asNat none v fun i => Bool.rec (motive := fun _ => Option Value) none (mkPtr b (Nat.add o (Nat.mul i s))) (Nat.blt i len)) with ⟨b, o, len, cap, rfl, hh⟩ | ⟨_, _, _, hh⟩ | hh
      · rw [hh] at h
        replace h := asNat_some h
        obtain ⟨k, i, rfl, h⟩ := h
        replace h := brec_some h
        obtain ⟨hlt, h⟩ := h
        have hlt := blt_lt hlt
        rw [rdB_eq] at hx hi
        have h : some (Value.pointer (some ⟨b, o + i * s, none⟩)) = some r := h
        cases h
        refine ⟨fun call c N H => ?_, fun _ N hE => .ptr (bdd_sl (bdd_opdT hE hx))⟩
        simp only [evOp, pureX, pureOp, hd, hx, hi, if_pos (hc hlt), hs, Option.map_some]
        rfl
      · rw [hh] at h; cases h
      · rw [hh] at h; cases h
    · exact genB_ok _
  · rename_i len e hd
    split
    · rename_i s hs
      intro E r h
      replace h := orec_some h
      obtain ⟨u, hx, h⟩ := h
      replace h := orec_some h
      obtain ⟨v, hi, h⟩ := h
      replace h := asPtr_some h
      obtain ⟨b, o, rfl, h⟩ := h
      replace h := asNat_some h
      obtain ⟨k, i, rfl, h⟩ := h
      replace h := brec_some h
      obtain ⟨hlt, h⟩ := h
      have hlt := blt_lt hlt
      rw [rdB_eq] at hx hi
      have h : some (Value.pointer (some ⟨b, o + i * s, none⟩)) = some r := h
      cases h
      refine ⟨fun call c N H => ?_, fun _ N hE => .ptr (bdd_ptr (bdd_opdT hE hx))⟩
      simp only [evOp, pureX, pureOp, hd, hx, hi, if_pos (hc hlt), hs, Option.map_some]
      rfl
    · exact genB_ok _
  · exact genB_ok _
def stFieldAddr (P : Program) (t : TypeId) (x : Operand) (f : Nat) : SOp := match P.underlying t with
  | some (.struct fs) => match fs[f]? with
    | some fd => match sizeA P fd.type with
      | some (_ + 1) => .pur false fun E => Option.rec (motive := fun _ => Option Value) none (fun u => asPtr none u fun b o => mkPtr b (Nat.add o fd.offset)) ((rdB x).un E)
      | _ => genB P (.fieldAddr t x f)
    | none => genB P (.fieldAddr t x f)
  | _ => genB P (.fieldAddr t x f)
theorem stFieldAddr_ok (t : TypeId) (x : Operand) (f : Nat) : SOpOk P n (.fieldAddr t x f) (stFieldAddr P t x f) := by
  unfold stFieldAddr
  split
  · rename_i fs hd
    split
    · rename_i fd hfd
      split
      · rename_i s hs
        intro E r h
        replace h := orec_some h
        obtain ⟨u, hx, h⟩ := h
        replace h := asPtr_some h
        obtain ⟨b, o, rfl, h⟩ := h
        rw [rdB_eq] at hx
        have h : some (Value.pointer (some ⟨b, o + fd.offset, none⟩)) = some r := h
        cases h
        refine ⟨fun call c N H => ?_, fun _ N hE => .ptr (bdd_ptr (bdd_opdT hE hx))⟩
        simp only [evOp, pureX, pureOp, hd, hx, hfd, hs, Option.bind_some, Nat.add_one_ne_zero, if_false, Option.map_some]
      · exact genB_ok _
    · exact genB_ok _
  · exact genB_ok _
def stNil (P : Program) (x : Operand) : SOp := .pur true fun E => Option.rec (motive := fun _ => Option Value) none (fun u => asPtr (pureX P (opdT E) (.nilCheck x)) u fun b o => some u) ((rdB x).un E)
theorem stNil_ok (x : Operand) : SOpOk P n (.nilCheck x) (stNil P x) := fun E r h => by
  replace h := orec_some h
  obtain ⟨u, hx, h⟩ := h
  rw [rdB_eq] at hx
  refine ⟨fun call c N H => ?_, fun h => by cases h⟩
  rcases asPtr_cases (pureX P (opdT E) (.nilCheck x)) u (fun b o => some u) with ⟨b, o, rfl, hh⟩ | hh
  · rw [hh] at h; cases h
    simp only [evOp, pureX, pureOp, hx, Option.map_some]
  · rw [hh] at h
    simp only [evOp, h, Option.map_some]
def stLen (P : Program) (args : Array Operand) (argTypes : Array TypeId) : SOp := match argTypes[0]?, args[0]? with
  | some t, some x => match P.underlying t with
    | some (.slice _) => .pur false fun E => Option.rec (motive := fun _ => Option Value) none (fun u => asLen u fun m => some (.int .i64 (.ofNat m))) ((rdB x).un E)
    | _ => genB P (.call ⟨.builtin .len, args, argTypes⟩)
  | _, _ => genB P (.call ⟨.builtin .len, args, argTypes⟩)
theorem stLen_ok (args : Array Operand) (argTypes : Array TypeId) : SOpOk P n (.call ⟨.builtin .len, args, argTypes⟩) (stLen P args argTypes) := by
  unfold stLen
  split
  · rename_i t x ht hx0
    split
    · rename_i el hd
      intro E r h
      replace h := orec_some h
      obtain ⟨u, hx, h⟩ := h
      replace h := asLen_some h
      obtain ⟨a, len, cap, rfl, h⟩ := h
      rw [rdB_eq] at hx
      cases h
      exact ⟨fun call c N H => by simp only [evOp, pureX, pureOp, ht, hx0, Option.bind_some, hx, hd, Option.map_some]; rfl, fun _ N _ => .of_flat rfl⟩
    · exact genB_ok _
  · exact genB_ok _
end
end Go.Abs

