/- Shaken texts of the layer and of the walks. -/
import Derived.Test.YtfialjllclclkaaFmIntLaws
import Derived.Attr
namespace Go.Abs
def keepPut (k : Nat) : Option Value → Env → Env
  | some v, e => (k, v) :: e
  | none, e => e
theorem keepPut_some (k : Nat) (v : Value) (e : Env) : keepPut k (some v) e = (k, v) :: e := rfl
theorem keepPut_none (k : Nat) (e : Env) : keepPut k none e = e := rfl
theorem keep_nil (e : Env) : e.keep [] = [] := rfl
theorem keep_cons (e : Env) (k : Nat) (ks : List Nat) : e.keep (k :: ks) = keepPut k (e.get k) (e.keep ks) := by
  unfold Env.keep
  rw [List.filterMap_cons]
  cases e.get k <;> rfl
attribute [go_sem] initEnv pureSteps pureStep dstOk wantedA pureOp Env.eval Env.get Env.put keepPut_some keepPut_none keep_nil keep_cons flat flat0 binA eqA Option.isNone_none Option.isNone_some minmaxA partA
  u64_and u64_or u64_xor u64_andNot u64_sub u64_add u64_shl u64_shr u64_shr_lit ofInt_toNat u64_eql u64_neq u64_eql_lit
  u8_eql u8_neq i64_lss i64_leq i64_gtr i64_geq i64_eql i64_neq u64_lss' u64_leq' u64_gtr' u64_geq' u64_eql' u64_neq'
attribute [go_sem] List.drop_succ_cons List.drop_zero List.drop_nil Option.map_some Option.map_none Option.bind_some Option.bind_none Option.pure_def Option.bind_eq_bind List.mapM_cons List.mapM_nil List.take_succ_cons List.take_zero List.take_nil
  List.foldlM_cons List.foldlM_nil List.filterMap_cons List.filterMap_nil List.getElem?_cons_zero List.getElem?_cons_succ List.getElem?_toArray List.toList_toArray List.all_cons List.all_nil
  if_true if_false decide_true decide_false Bool.and_true Bool.true_and Bool.and_false Bool.false_and beq_self_eq_true Bool.false_eq_true reduceCtorEq Int.toNat_natCast Int.natCast_nonneg
  ne_eq not_true_eq_false not_false_eq_true Bool.not_true Bool.not_false Nat.zero_add and_self and_true true_and
end Go.Abs

