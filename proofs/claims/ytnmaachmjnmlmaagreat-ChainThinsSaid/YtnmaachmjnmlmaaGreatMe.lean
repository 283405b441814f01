/-
  What some functions answer in the run of l20_fit; the table in which they do.
-/
import Derived.Test.YtnmaachmjnmlmaaGreatCa
import Derived.Test.YtnmaachmjnmlmaaGreatFm
set_option linter.unusedVariables false
set_option linter.unusedSimpArgs false
set_option linter.unusedSectionVars false
namespace Go.Iso
open Go.Ev
set_option maxRecDepth 100000

def kn_frac_Of : Known := [
  ([.int .i64 2], .agg ⟨[.bool false, .iface 1 (.agg ⟨[.int .u64 2]⟩), .iface 1 (.agg ⟨[.int .u64 1]⟩)]⟩),
  ([.int .i64 0], .agg ⟨[.bool false, .iface 1 (.agg ⟨[]⟩), .iface 1 (.agg ⟨[.int .u64 1]⟩)]⟩),
  ([.int .i64 4], .agg ⟨[.bool false, .iface 1 (.agg ⟨[.int .u64 4]⟩), .iface 1 (.agg ⟨[.int .u64 1]⟩)]⟩)]
theorem an_frac_Of : Ans prog n_frac_Of kn_frac_Of := ans_of (n := 200) (by decide +kernel)
def kn_frac_Neg : Known := [
  ([.agg ⟨[.bool false, .iface 1 (.agg ⟨[]⟩), .iface 1 (.agg ⟨[.int .u64 1]⟩)]⟩], .agg ⟨[.bool false, .iface 1 (.agg ⟨[]⟩), .iface 1 (.agg ⟨[.int .u64 1]⟩)]⟩),
  ([.agg ⟨[.bool false, .iface 1 (.agg ⟨[.int .u64 4]⟩), .iface 1 (.agg ⟨[.int .u64 1]⟩)]⟩], .agg ⟨[.bool true, .iface 1 (.agg ⟨[.int .u64 4]⟩), .iface 1 (.agg ⟨[.int .u64 1]⟩)]⟩)]
theorem an_frac_Neg : Ans prog n_frac_Neg kn_frac_Neg := ans_of (n := 200) (by decide +kernel)
def kn_frac_Add : Known := [
  ([.agg ⟨[.bool false, .iface 1 (.agg ⟨[.int .u64 2]⟩), .iface 1 (.agg ⟨[.int .u64 1]⟩)]⟩, .agg ⟨[.bool false, .iface 1 (.agg ⟨[]⟩), .iface 1 (.agg ⟨[.int .u64 1]⟩)]⟩], .agg ⟨[.bool false, .iface 1 (.agg ⟨[.int .u64 2]⟩), .iface 1 (.agg ⟨[.int .u64 1]⟩)]⟩),
  ([.agg ⟨[.bool false, .iface 1 (.agg ⟨[]⟩), .iface 1 (.agg ⟨[.int .u64 1]⟩)]⟩, .agg ⟨[.bool false, .iface 1 (.agg ⟨[.int .u64 1]⟩), .iface 1 (.agg ⟨[.int .u64 1]⟩)]⟩], .agg ⟨[.bool false, .iface 1 (.agg ⟨[.int .u64 1]⟩), .iface 1 (.agg ⟨[.int .u64 1]⟩)]⟩),
  ([.agg ⟨[.bool false, .iface 1 (.agg ⟨[.int .u64 2]⟩), .iface 1 (.agg ⟨[.int .u64 1]⟩)]⟩, .agg ⟨[.bool true, .iface 1 (.agg ⟨[.int .u64 4]⟩), .iface 1 (.agg ⟨[.int .u64 1]⟩)]⟩], .agg ⟨[.bool true, .iface 1 (.agg ⟨[.int .u64 2]⟩), .iface 1 (.agg ⟨[.int .u64 1]⟩)]⟩),
  ([.agg ⟨[.bool false, .iface 1 (.agg ⟨[.int .u64 4]⟩), .iface 1 (.agg ⟨[.int .u64 1]⟩)]⟩, .agg ⟨[.bool true, .iface 1 (.agg ⟨[.int .u64 1]⟩), .iface 1 (.agg ⟨[.int .u64 1]⟩)]⟩], .agg ⟨[.bool false, .iface 1 (.agg ⟨[.int .u64 3]⟩), .iface 1 (.agg ⟨[.int .u64 1]⟩)]⟩)]
theorem an_frac_Add : Ans prog n_frac_Add kn_frac_Add := ans_of (n := 200) (by decide +kernel)
def kn_frac_Sub : Known := [
  ([.agg ⟨[.bool false, .iface 1 (.agg ⟨[.int .u64 2]⟩), .iface 1 (.agg ⟨[.int .u64 1]⟩)]⟩, .agg ⟨[.bool false, .iface 1 (.agg ⟨[]⟩), .iface 1 (.agg ⟨[.int .u64 1]⟩)]⟩], .agg ⟨[.bool false, .iface 1 (.agg ⟨[.int .u64 2]⟩), .iface 1 (.agg ⟨[.int .u64 1]⟩)]⟩),
  ([.agg ⟨[.bool false, .iface 1 (.agg ⟨[.int .u64 2]⟩), .iface 1 (.agg ⟨[.int .u64 1]⟩)]⟩, .agg ⟨[.bool false, .iface 1 (.agg ⟨[.int .u64 4]⟩), .iface 1 (.agg ⟨[.int .u64 1]⟩)]⟩], .agg ⟨[.bool true, .iface 1 (.agg ⟨[.int .u64 2]⟩), .iface 1 (.agg ⟨[.int .u64 1]⟩)]⟩)]
theorem an_frac_Sub : Ans prog n_frac_Sub kn_frac_Sub := ans_of (n := 200) (by decide +kernel)
def kn_frac_Mul : Known := [
  ([.agg ⟨[.bool false, .iface 1 (.agg ⟨[.int .u64 1]⟩), .iface 1 (.agg ⟨[.int .u64 2]⟩)]⟩, .agg ⟨[.bool false, .iface 1 (.agg ⟨[.int .u64 2]⟩), .iface 1 (.agg ⟨[.int .u64 1]⟩)]⟩], .agg ⟨[.bool false, .iface 1 (.agg ⟨[.int .u64 1]⟩), .iface 1 (.agg ⟨[.int .u64 1]⟩)]⟩),
  ([.agg ⟨[.bool false, .iface 1 (.agg ⟨[.int .u64 1]⟩), .iface 1 (.agg ⟨[.int .u64 2]⟩)]⟩, .agg ⟨[.bool true, .iface 1 (.agg ⟨[.int .u64 2]⟩), .iface 1 (.agg ⟨[.int .u64 1]⟩)]⟩], .agg ⟨[.bool true, .iface 1 (.agg ⟨[.int .u64 1]⟩), .iface 1 (.agg ⟨[.int .u64 1]⟩)]⟩)]
theorem an_frac_Mul : Ans prog n_frac_Mul kn_frac_Mul := ans_of (n := 200) (by decide +kernel)
def kn_frac_Div : Known := [
  ([.agg ⟨[.bool false, .iface 1 (.agg ⟨[.int .u64 2]⟩), .iface 1 (.agg ⟨[.int .u64 1]⟩)]⟩, .agg ⟨[.bool false, .iface 1 (.agg ⟨[.int .u64 4]⟩), .iface 1 (.agg ⟨[.int .u64 1]⟩)]⟩], .tuple ⟨[.agg ⟨[.bool false, .iface 1 (.agg ⟨[.int .u64 1]⟩), .iface 1 (.agg ⟨[.int .u64 2]⟩)]⟩, .bool true]⟩)]
theorem an_frac_Div : Ans prog n_frac_Div kn_frac_Div := ans_of (n := 200) (by decide +kernel)
def kn_frac_Cmp : Known := [
  ([.agg ⟨[.bool false, .iface 1 (.agg ⟨[]⟩), .iface 1 (.agg ⟨[.int .u64 1]⟩)]⟩, .agg ⟨[.bool false, .iface 1 (.agg ⟨[.int .u64 2]⟩), .iface 1 (.agg ⟨[.int .u64 1]⟩)]⟩], .int .i64 (-1)),
  ([.agg ⟨[.bool false, .iface 1 (.agg ⟨[.int .u64 4]⟩), .iface 1 (.agg ⟨[.int .u64 1]⟩)]⟩, .agg ⟨[.bool false, .iface 1 (.agg ⟨[.int .u64 2]⟩), .iface 1 (.agg ⟨[.int .u64 1]⟩)]⟩], .int .i64 1),
  ([.agg ⟨[.bool false, .iface 1 (.agg ⟨[.int .u64 1]⟩), .iface 1 (.agg ⟨[.int .u64 1]⟩)]⟩, .agg ⟨[.bool false, .iface 1 (.agg ⟨[.int .u64 3]⟩), .iface 1 (.agg ⟨[.int .u64 1]⟩)]⟩], .int .i64 (-1)),
  ([.agg ⟨[.bool false, .iface 1 (.agg ⟨[.int .u64 3]⟩), .iface 1 (.agg ⟨[.int .u64 1]⟩)]⟩, .agg ⟨[.bool false, .iface 1 (.agg ⟨[.int .u64 3]⟩), .iface 1 (.agg ⟨[.int .u64 1]⟩)]⟩], .int .i64 0),
  ([.agg ⟨[.bool false, .iface 1 (.agg ⟨[.int .u64 3]⟩), .iface 1 (.agg ⟨[.int .u64 1]⟩)]⟩, .agg ⟨[.bool false, .iface 1 (.agg ⟨[.int .u64 1]⟩), .iface 1 (.agg ⟨[.int .u64 1]⟩)]⟩], .int .i64 1),
  ([.agg ⟨[.bool false, .iface 1 (.agg ⟨[.int .u64 1]⟩), .iface 1 (.agg ⟨[.int .u64 1]⟩)]⟩, .agg ⟨[.bool false, .iface 1 (.agg ⟨[.int .u64 1]⟩), .iface 1 (.agg ⟨[.int .u64 1]⟩)]⟩], .int .i64 0)]
theorem an_frac_Cmp : Ans prog n_frac_Cmp kn_frac_Cmp := ans_of (n := 200) (by decide +kernel)
def kn_frac_Same : Known := [
  ([.agg ⟨[.bool false, .iface 1 (.agg ⟨[.int .u64 1]⟩), .iface 1 (.agg ⟨[.int .u64 1]⟩)]⟩, .agg ⟨[.bool false, .iface 1 (.agg ⟨[.int .u64 3]⟩), .iface 1 (.agg ⟨[.int .u64 1]⟩)]⟩], .bool false),
  ([.agg ⟨[.bool false, .iface 1 (.agg ⟨[.int .u64 3]⟩), .iface 1 (.agg ⟨[.int .u64 1]⟩)]⟩, .agg ⟨[.bool false, .iface 1 (.agg ⟨[.int .u64 3]⟩), .iface 1 (.agg ⟨[.int .u64 1]⟩)]⟩], .bool true),
  ([.agg ⟨[.bool false, .iface 1 (.agg ⟨[.int .u64 3]⟩), .iface 1 (.agg ⟨[.int .u64 1]⟩)]⟩, .agg ⟨[.bool false, .iface 1 (.agg ⟨[.int .u64 1]⟩), .iface 1 (.agg ⟨[.int .u64 1]⟩)]⟩], .bool false),
  ([.agg ⟨[.bool false, .iface 1 (.agg ⟨[.int .u64 1]⟩), .iface 1 (.agg ⟨[.int .u64 1]⟩)]⟩, .agg ⟨[.bool false, .iface 1 (.agg ⟨[.int .u64 1]⟩), .iface 1 (.agg ⟨[.int .u64 1]⟩)]⟩], .bool true)]
theorem an_frac_Same : Ans prog n_frac_Same kn_frac_Same := ans_of (n := 200) (by decide +kernel)
def kn_pred_Orient : Known := [
  ([.agg ⟨[.int .i64 0, .int .i64 0]⟩, .agg ⟨[.int .i64 4, .int .i64 0]⟩, .agg ⟨[.int .i64 4, .int .i64 4]⟩], .int .i64 1),
  ([.agg ⟨[.int .i64 4, .int .i64 0]⟩, .agg ⟨[.int .i64 4, .int .i64 4]⟩, .agg ⟨[.int .i64 0, .int .i64 4]⟩], .int .i64 1),
  ([.agg ⟨[.int .i64 4, .int .i64 4]⟩, .agg ⟨[.int .i64 0, .int .i64 0]⟩, .agg ⟨[.int .i64 0, .int .i64 4]⟩], .int .i64 (-1)),
  ([.agg ⟨[.int .i64 4, .int .i64 4]⟩, .agg ⟨[.int .i64 4, .int .i64 0]⟩, .agg ⟨[.int .i64 0, .int .i64 4]⟩], .int .i64 (-1)),
  ([.agg ⟨[.int .i64 4, .int .i64 0]⟩, .agg ⟨[.int .i64 0, .int .i64 0]⟩, .agg ⟨[.int .i64 0, .int .i64 4]⟩], .int .i64 (-1)),
  ([.agg ⟨[.int .i64 4, .int .i64 0]⟩, .agg ⟨[.int .i64 4, .int .i64 4]⟩, .agg ⟨[.int .i64 2, .int .i64 2]⟩], .int .i64 1),
  ([.agg ⟨[.int .i64 4, .int .i64 4]⟩, .agg ⟨[.int .i64 0, .int .i64 0]⟩, .agg ⟨[.int .i64 2, .int .i64 2]⟩], .int .i64 0),
  ([.agg ⟨[.int .i64 0, .int .i64 0]⟩, .agg ⟨[.int .i64 4, .int .i64 0]⟩, .agg ⟨[.int .i64 2, .int .i64 2]⟩], .int .i64 1),
  ([.agg ⟨[.int .i64 4, .int .i64 4]⟩, .agg ⟨[.int .i64 4, .int .i64 0]⟩, .agg ⟨[.int .i64 2, .int .i64 2]⟩], .int .i64 (-1)),
  ([.agg ⟨[.int .i64 4, .int .i64 0]⟩, .agg ⟨[.int .i64 0, .int .i64 0]⟩, .agg ⟨[.int .i64 2, .int .i64 2]⟩], .int .i64 (-1)),
  ([.agg ⟨[.int .i64 0, .int .i64 4]⟩, .agg ⟨[.int .i64 4, .int .i64 4]⟩, .agg ⟨[.int .i64 2, .int .i64 2]⟩], .int .i64 (-1)),
  ([.agg ⟨[.int .i64 0, .int .i64 0]⟩, .agg ⟨[.int .i64 0, .int .i64 4]⟩, .agg ⟨[.int .i64 2, .int .i64 2]⟩], .int .i64 (-1)),
  ([.agg ⟨[.int .i64 4, .int .i64 4]⟩, .agg ⟨[.int .i64 2, .int .i64 2]⟩, .agg ⟨[.int .i64 0, .int .i64 0]⟩], .int .i64 0),
  ([.agg ⟨[.int .i64 2, .int .i64 2]⟩, .agg ⟨[.int .i64 4, .int .i64 0]⟩, .agg ⟨[.int .i64 0, .int .i64 0]⟩], .int .i64 (-1)),
  ([.agg ⟨[.int .i64 4, .int .i64 0]⟩, .agg ⟨[.int .i64 2, .int .i64 2]⟩, .agg ⟨[.int .i64 0, .int .i64 0]⟩], .int .i64 1),
  ([.agg ⟨[.int .i64 2, .int .i64 2]⟩, .agg ⟨[.int .i64 0, .int .i64 0]⟩, .agg ⟨[.int .i64 0, .int .i64 0]⟩], .int .i64 0),
  ([.agg ⟨[.int .i64 0, .int .i64 0]⟩, .agg ⟨[.int .i64 4, .int .i64 0]⟩, .agg ⟨[.int .i64 0, .int .i64 0]⟩], .int .i64 0)]
theorem an_pred_Orient : Ans prog n_pred_Orient kn_pred_Orient := ans_of (n := 200) (by decide +kernel)
def kn_pred_Circle : Known := [
  ([.agg ⟨[.int .i64 0, .int .i64 0]⟩, .agg ⟨[.int .i64 4, .int .i64 0]⟩, .agg ⟨[.int .i64 4, .int .i64 4]⟩, .agg ⟨[.int .i64 0, .int .i64 4]⟩], .int .i64 0)]
theorem an_pred_Circle : Ans prog n_pred_Circle kn_pred_Circle := ans_of (n := 200) (by decide +kernel)
def progE : Nat → Option CDecl := (setP (setP (setP (setP (setP (setP (setP (setP (setP (setP prog n_frac_Of (memo kn_frac_Of)) n_frac_Neg (memo kn_frac_Neg)) n_frac_Add (memo kn_frac_Add)) n_frac_Sub (memo kn_frac_Sub)) n_frac_Mul (memo kn_frac_Mul)) n_frac_Div (memo kn_frac_Div)) n_frac_Cmp (memo kn_frac_Cmp)) n_frac_Same (memo kn_frac_Same)) n_pred_Orient (memo kn_pred_Orient)) n_pred_Circle (memo kn_pred_Circle))
theorem pokE {P : Program} (K : POk P prog) : POk P progE := (POk.set (POk.set (POk.set (POk.set (POk.set (POk.set (POk.set (POk.set (POk.set (POk.set K (prim_memo K an_frac_Of)) (prim_memo K an_frac_Neg)) (prim_memo K an_frac_Add)) (prim_memo K an_frac_Sub)) (prim_memo K an_frac_Mul)) (prim_memo K an_frac_Div)) (prim_memo K an_frac_Cmp)) (prim_memo K an_frac_Same)) (prim_memo K an_pred_Orient)) (prim_memo K an_pred_Circle))
/-- A run that answers true. -/
def trueB (r : Option (Value × St)) : Bool := match r with
  | some (.bool true, _) => true
  | _ => false
theorem trueB_some {r : Option (Value × St)} (h : trueB r = true) : ∃ s, r = some (.bool true, s) := by
  unfold trueB at h
  split at h
  · exact ⟨_, rfl⟩
  · cases h
theorem fit_runs : trueB (callV progE 400 (.func (.func n_l20_fit) ⟨[]⟩ ⟨[]⟩) [] ⟨0, 0, .leaf⟩) = true := by decide +kernel
end Go.Iso

